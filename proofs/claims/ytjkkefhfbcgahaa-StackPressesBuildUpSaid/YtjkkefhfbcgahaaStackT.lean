/- Chapter 4: presses and cycles: plain. -/
import Derived.Test.YtjkkefhfbcgahaaStackS
namespace Go.Proofs.Ytjkkefhfbcgahaa
open Go Go.RowKit
set_option linter.unusedVariables false

theorem S_equal_int {xs ys : List Int} {Q : Bool → Prop} (h : Q (decide (xs = ys))) : M_equal_int xs ys Q := by
  unfold M_equal_int
  refine equal_loop (fun k x next hq => ?_) h
  unfold M_equal_int_L1
  obtain ⟨h0, y, hy, hc⟩ := hq
  refine ⟨h0, y, hy, ?_⟩
  have : (x != y) = !(decide (x = y)) := by rw [Bool.eq_iff_iff]; simp
  dsimp only
  rw [this]; exact hc
/-! ### the sub-boards: none lies within an earlier one, the last one is the whole -/
theorem mem_refTo' {m : List Material} {s : List Layer} {x : Through} : ∀ {i : Nat}, x ∈ refTo m s i → ∃ j : Nat, 1 ≤ j ∧ j < i ∧ x = ⟨(j : Int), (j : Int) + 1⟩
  | 0, h => by simp [refTo] at h
  | i + 1, h => by
    rw [refTo, List.mem_append] at h
    rcases h with h | h
    · obtain ⟨j, h1, h2, h3⟩ := mem_refTo' h; exact ⟨j, h1, by omega, h3⟩
    · split at h
      · rename_i hc; simp at h; exact ⟨i, hc.1, by omega, h⟩
      · simp at h
theorem refTo_rises (m : List Material) (s : List Layer) : ∀ i, (refTo m s i).Pairwise (fun a b => liesB b a = false)
  | 0 => by simp [refTo]
  | i + 1 => by
    rw [refTo, List.pairwise_append]
    refine ⟨refTo_rises m s i, by split <;> simp, fun a ha b hb => ?_⟩
    obtain ⟨j, h1, h2, rfl⟩ := mem_refTo' ha
    split at hb
    · simp at hb; subst hb; unfold liesB; simp; omega
    · simp at hb
theorem pressed_nodup (base : List Through) : ∀ (l acc : List Through), acc.Nodup → (l.foldl (addNew base) acc).Nodup
  | [], acc, h => h
  | x :: l, acc, h => by
    refine pressed_nodup base l _ ?_
    unfold addNew
    split
    · exact h
    · rename_i hn
      rw [List.nodup_append]
      exact ⟨h, by simp, fun a ha b hb e => hn (.inr (by simp at hb; rw [← hb, ← e]; exact ha))⟩
theorem pressed_apart (base : List Through) : ∀ (l acc : List Through), (∀ x ∈ acc, x ∉ base) → ∀ x ∈ l.foldl (addNew base) acc, x ∉ base
  | [], acc, h => h
  | y :: l, acc, h => by
    refine pressed_apart base l _ (fun x hx => ?_)
    unfold addNew at hx
    split at hx
    · exact h x hx
    · rename_i hn
      rcases List.mem_append.1 hx with hx | hx
      · exact h x hx
      · simp at hx; subst hx; exact fun e => hn (.inl e)
theorem pressed_has (base : List Through) : ∀ (l acc : List Through) (x : Through), x ∈ acc ∨ x ∈ l → x ∈ base ∨ x ∈ l.foldl (addNew base) acc
  | [], acc, x, h => by
    rcases h with h | h
    · exact .inr h
    · simp at h
  | y :: l, acc, x, h => by
    by_cases hb : x ∈ base
    · exact .inl hb
    have hk : ∀ z ∈ acc, z ∈ addNew base acc y := fun z hz => by
      unfold addNew; split
      · exact hz
      · exact List.mem_append_left _ hz
    refine pressed_has base l (addNew base acc y) x ?_
    rcases h with h | h
    · exact .inl (hk x h)
    · rcases List.mem_cons.1 h with h | h
      · subst h
        unfold addNew; split
        · rename_i hc; rcases hc with hc | hc
          · exact absurd hc hb
          · exact .inl hc
        · exact .inl (by simp)
      · exact .inr h
theorem all_facts {m : List Material} {s : List Layer} {l : List Through} (h : spansFault m s l = 0) :
    (allOf m s l).Pairwise (fun a b => liesB b a = false) ∧ (∀ x ∈ allOf m s l, 1 ≤ x.From ∧ x.From < x.To ∧ x.To ≤ (copOf m s).length) ∧ (∀ x ∈ l, x ∈ allOf m s l) ∧ wholeOf m s ∈ allOf m s l := by
  obtain ⟨h1, hll, hspan⟩ := spans_ok h
  obtain ⟨hm, hsl, hc2, h0, _, hb⟩ := stack_ok h1
  have hcp := copOf_len m s
  have hcores := cores_ref h1
  have hcm : ∀ x ∈ coresOf m s, ∃ j : Nat, 1 ≤ j ∧ j < (copOf m s).length ∧ x = ⟨(j : Int), (j : Int) + 1⟩ := fun x hx => by rw [hcores] at hx; exact mem_refTo' hx
  have hpm : ∀ x ∈ pressedOf (coresOf m s) (l ++ [wholeOf m s]), (1 ≤ x.From ∧ x.From < x.To ∧ x.To ≤ (copOf m s).length) ∧ x ∉ coresOf m s := fun x hx => by
    refine ⟨?_, pressed_apart _ _ _ (by simp) x hx⟩
    rcases pressed_mem _ _ _ _ hx with h2 | h2
    · simp at h2
    · rcases List.mem_append.1 h2 with h2 | h2
      · exact hspan x h2
      · simp at h2; subst h2; unfold wholeOf; simp only; omega
  have hnd : (sortSpans (pressedOf (coresOf m s) (l ++ [wholeOf m s]))).Nodup := (sortSpans_perm _).nodup_iff.2 (pressed_nodup _ _ _ (by simp))
  have hpm' : ∀ x ∈ sortSpans (pressedOf (coresOf m s) (l ++ [wholeOf m s])), (1 ≤ x.From ∧ x.From < x.To ∧ x.To ≤ (copOf m s).length) ∧ x ∉ coresOf m s := fun x hx => hpm x ((sortSpans_perm _).mem_iff.1 hx)
  have hin : ∀ x, (x ∈ l ∨ x = wholeOf m s) → x ∈ allOf m s l := fun x hx => by
    unfold allOf
    rw [List.mem_append, (sortSpans_perm _).mem_iff]
    exact pressed_has _ _ _ x (.inr (by rw [List.mem_append]; simpa using hx))
  refine ⟨?_, fun x hx => ?_, fun x hx => hin x (.inl hx), hin _ (.inr rfl)⟩
  · unfold allOf
    rw [List.pairwise_append]
    refine ⟨by rw [hcores]; exact refTo_rises m s _, ?_, fun a ha b hb => ?_⟩
    · refine (List.Pairwise.and (sortSpans_sorted _) hnd).imp_of_mem (fun {a b} ha hb hab => ?_)
      obtain ⟨⟨a1, a2, a3⟩, _⟩ := hpm' a ha
      obtain ⟨⟨b1, b2, b3⟩, _⟩ := hpm' b hb
      obtain ⟨hs, hne⟩ := hab
      have hs : ¬ cmpSpans b a < 0 := hs
      rw [cmpSpans_lt, w64_id (by omega) (by omega), w64_id (by omega) (by omega)] at hs
      cases hl : liesB b a with
      | false => rfl
      | true =>
        exfalso
        unfold liesB at hl
        simp only [Bool.and_eq_true, decide_eq_true_eq] at hl
        apply hne
        cases a; cases b
        simp only at *
        rw [Through.mk.injEq]; omega
    · obtain ⟨j, h2, h3, rfl⟩ := hcm a ha
      obtain ⟨⟨b1, b2, b3⟩, bn⟩ := hpm' b hb
      cases hl : liesB b ⟨(j : Int), (j : Int) + 1⟩ with
      | false => rfl
      | true =>
        exfalso
        unfold liesB at hl
        simp only [Bool.and_eq_true, decide_eq_true_eq] at hl
        apply bn
        have : b = ⟨(j : Int), (j : Int) + 1⟩ := by
          cases b; simp only at *; rw [Through.mk.injEq]; omega
        rw [this]; exact ha
  · unfold allOf at hx
    rcases List.mem_append.1 hx with hx | hx
    · obtain ⟨j, h2, h3, rfl⟩ := hcm x hx; simp only; omega
    · exact (hpm' x hx).1
theorem all_last {m : List Material} {s : List Layer} {l : List Through} (h : spansFault m s l = 0) : 0 < (allOf m s l).length ∧ (allOf m s l)[(allOf m s l).length - 1]? = some (wholeOf m s) := by
  obtain ⟨hp, hi, _, hw⟩ := all_facts h
  obtain ⟨i, hi1, hi2⟩ := List.getElem_of_mem hw
  refine ⟨by omega, ?_⟩
  by_cases he : i = (allOf m s l).length - 1
  · rw [← he, List.getElem?_eq_getElem hi1, hi2]
  · exfalso
    have h3 := List.pairwise_iff_getElem.1 hp i ((allOf m s l).length - 1) hi1 (by omega) (by omega)
    rw [hi2] at h3
    have h4 := hi _ (List.getElem_mem (by omega : (allOf m s l).length - 1 < (allOf m s l).length))
    unfold liesB wholeOf at h3
    simp only [Bool.and_eq_false_iff, decide_eq_false_iff_not] at h3
    omega
/-! ### presses -/
def holesFor (l : List Through) (x : Through) : Nat → List Int
  | 0 => []
  | k + 1 => holesFor l x k ++ (if l.getD k default = x then [(k : Int)] else [])
theorem holesFor_len (l : List Through) (x : Through) : ∀ k, (holesFor l x k).length ≤ k
  | 0 => by simp [holesFor]
  | k + 1 => by have := holesFor_len l x k; simp only [holesFor, List.length_append]; split <;> simp <;> omega
theorem mem_holesFor {l : List Through} {x : Through} {h : Int} : ∀ {k : Nat}, h ∈ holesFor l x k ↔ ∃ i : Nat, i < k ∧ h = (i : Int) ∧ l.getD i default = x
  | 0 => by simp [holesFor]
  | k + 1 => by
    rw [holesFor, List.mem_append, mem_holesFor]
    constructor
    · rintro (⟨i, h1, h2, h3⟩ | h1)
      · exact ⟨i, by omega, h2, h3⟩
      · split at h1
        · rename_i hc; simp at h1; exact ⟨k, by omega, h1, hc⟩
        · simp at h1
    · rintro ⟨i, h1, h2, h3⟩
      by_cases he : i = k
      · subst he; exact .inr (by rw [if_pos h3, h2]; simp)
      · exact .inl ⟨i, by omega, h2, h3⟩
theorem holesFor_nodup (l : List Through) (x : Through) : ∀ k, (holesFor l x k).Nodup
  | 0 => by simp [holesFor]
  | k + 1 => by
    rw [holesFor, List.nodup_append]
    refine ⟨holesFor_nodup l x k, by split <;> simp, fun a ha b hb e => ?_⟩
    obtain ⟨i, h1, h2, _⟩ := mem_holesFor.1 ha
    split at hb
    · simp at hb; omega
    · simp at hb
def pressAt (m : List Material) (s : List Layer) (l : List Through) (i : Nat) : Press :=
  ⟨((allOf m s l).getD i default).From, ((allOf m s l).getD i default).To, decide ((i : Int) < ((coresOf m s).length : Int)), holesFor l ((allOf m s l).getD i default) l.length⟩
def pressTo (m : List Material) (s : List Layer) (l : List Through) : Nat → List Press
  | 0 => []
  | i + 1 => pressTo m s l i ++ [pressAt m s l i]
theorem pressTo_len (m : List Material) (s : List Layer) (l : List Through) : ∀ i, (pressTo m s l i).length = i
  | 0 => rfl
  | i + 1 => by rw [pressTo, List.length_append, pressTo_len]; rfl
theorem pressTo_get (m : List Material) (s : List Layer) (l : List Through) : ∀ (i k : Nat), k < i → (pressTo m s l i)[k]? = some (pressAt m s l k)
  | i + 1, k, h => by
    rw [pressTo]
    by_cases he : k = i
    · subst he; rw [List.getElem?_append_right (by rw [pressTo_len]; omega), pressTo_len]; simp
    · rw [List.getElem?_append_left (by rw [pressTo_len]; omega)]; exact pressTo_get m s l i k (by omega)
def pressesOf (m : List Material) (s : List Layer) (l : List Through) : List Press × Int :=
  if spansFault m s l ≠ 0 then ([], spansFault m s l) else (pressTo m s l (allOf m s l).length, 0)
theorem allOf_len {m : List Material} {s : List Layer} {l : List Through} : (allOf m s l).length ≤ s.length + l.length + 1 := by
  unfold allOf
  rw [List.length_append, (sortSpans_perm _).length_eq]
  have h1 := coresOf_len m s
  have h2 := pressed_len (coresOf m s) (l ++ [wholeOf m s]) []
  have h3 : (pressedOf (coresOf m s) (l ++ [wholeOf m s])).length ≤ l.length + 1 := by unfold pressedOf; simpa using h2
  omega
theorem sub_at {m : List Material} {s : List Layer} {l : List Through} {i : Nat} {x : R4Sub} (hx : (subsOf m s l)[i]? = some x) : (allOf m s l)[i]? = some x.Through ∧ x.core = decide ((i : Int) < ((coresOf m s).length : Int)) := by
  have h1 := subs_through m s l
  refine ⟨by rw [← h1, List.getElem?_map, hx]; rfl, ?_⟩
  unfold subsOf at hx
  by_cases hi : i < (coresOf m s).length
  · rw [List.getElem?_append_left (by simpa using hi), List.getElem?_map, List.getElem?_eq_getElem hi] at hx
    injection hx with hx; subst hx
    rw [decide_eq_true (by omega)]; rfl
  · rw [List.getElem?_append_right (by simpa using (by omega : (coresOf m s).length ≤ i)), List.getElem?_map] at hx
    cases hg : (sortSpans (pressedOf (coresOf m s) (l ++ [wholeOf m s])))[i - ((coresOf m s).map subC).length]? with
    | none => rw [hg] at hx; cases hx
    | some z => rw [hg] at hx; injection hx with hx; subst hx; rw [decide_eq_false (by omega)]; rfl
/-! ### cycles -/
def bump (o : List Int) (b : Through) (k : Nat) : List Int := o.mapIdx (fun j y => if b.From ≤ (j : Int) + 1 ∧ (j : Int) + 1 < b.From + (k : Int) then w64 (y + 1) else y)
theorem bump_len (o : List Int) (b : Through) (k : Nat) : (bump o b k).length = o.length := by simp [bump]
theorem bump_zero (o : List Int) (b : Through) : bump o b 0 = o := by
  unfold bump
  apply List.ext_getElem?
  intro j
  rw [List.getElem?_mapIdx]
  cases o[j]? with
  | none => rfl
  | some y => simp only [Option.map_some]; rw [if_neg (by omega)]
theorem bump_step {o : List Int} {b : Through} {k : Nat} (hb : 1 ≤ b.From) (hk : b.From + (k : Int) ≤ o.length) {y : Int} (hy : (bump o b k)[(b.From + (k : Int) - 1).toNat]? = some y) : (bump o b k).set (b.From + (k : Int) - 1).toNat (w64 (y + 1)) = bump o b (k + 1) := by
  apply List.ext_getElem?
  intro j
  unfold bump at *
  rw [List.getElem?_mapIdx] at hy
  rw [List.getElem?_set, List.getElem?_mapIdx, List.getElem?_mapIdx, List.length_mapIdx]
  by_cases hj : (b.From + (k : Int) - 1).toNat = j
  · rw [if_pos hj, if_pos (by omega)]
    rw [hj] at hy
    cases ho : o[j]? with
    | none => rw [List.getElem?_eq_none_iff] at ho; omega
    | some z =>
      rw [ho] at hy; simp only [Option.map_some] at hy ⊢
      rw [if_neg (by omega)] at hy
      injection hy with hy; subst hy
      rw [if_pos (by omega)]
  · rw [if_neg hj]
    cases ho : o[j]? with
    | none => rfl
    | some z =>
      simp only [Option.map_some]
      by_cases hc : b.From ≤ (j : Int) + 1 ∧ (j : Int) + 1 < b.From + (k : Int)
      · rw [if_pos hc, if_pos (by omega)]
      · rw [if_neg hc, if_neg (by omega)]
def cycOf (m : List Material) (s : List Layer) (l : List Through) : List Int := ((allOf m s l).drop (coresOf m s).length).foldl (fun o b => bump o b (b.To - b.From + 1).toNat) (List.replicate (copOf m s).length 0)
theorem cyc_len (p : List Through) : ∀ (o : List Int), (p.foldl (fun o b => bump o b (b.To - b.From + 1).toNat) o).length = o.length := by
  induction p with
  | nil => intro o; rfl
  | cons b p ih => intro o; rw [List.foldl_cons, ih, bump_len]
def cyclesOf (m : List Material) (s : List Layer) (l : List Through) : List Int × Int :=
  if spansFault m s l ≠ 0 then ([], spansFault m s l) else (cycOf m s l, 0)
/-! ### what the programs compute -/
theorem span_in {m : List Material} {s : List Layer} {l : List Through} (h : spansFault m s l = 0) : ∀ x ∈ l, SpanIn x := fun x hx => by
  obtain ⟨h1, _, hspan⟩ := spans_ok h
  obtain ⟨_, hsl, _⟩ := stack_ok h1
  have := hspan x hx
  have hcp := copOf_len m s
  unfold SpanOk at this; unfold SpanIn; omega
theorem S_stack_Presses {m : List Material} {s : List Layer} {l : List Through} (hmf : Fits.fits m) (hf : Fits.fits s) {Q : List Press → Int → Prop} (h : Q (pressesOf m s l).1 (pressesOf m s l).2) : M_stack_Presses m s l Q := by
  unfold M_stack_Presses
  refine S_stack_CheckSpans hmf hf (cnd_of (fun e => ?_) (fun e => ?_))
  · have e : spansFault m s l ≠ 0 := by simpa using e
    rw [show pressesOf m s l = ([], spansFault m s l) by unfold pressesOf; rw [if_pos e]] at h; exact h
  have e : spansFault m s l = 0 := by simpa using e
  rw [show pressesOf m s l = (pressTo m s l (allOf m s l).length, 0) by unfold pressesOf; rw [if_neg (fun hh => hh e)]] at h
  obtain ⟨h1, hll, hspan⟩ := spans_ok e
  obtain ⟨hm, hsl, _, _, _, hb⟩ := stack_ok h1
  have hal := allOf_len (m := m) (s := s) (l := l)
  refine S_stack_boards hm hsl (span_in e) hll ?_
  refine forIn0 (fun i acc => acc = pressTo m s l i) rfl (fun i x acc hx hI next hn => ?_) (fun acc hI => by subst hI; exact h)
  have hX := hn _ rfl
  have hi := lt_of_get hx
  have hpl := pressTo_len m s l i
  rw [pressTo, ← hI] at hX
  rw [← hI] at hpl
  unfold pressAt at hX
  rw [getD_of hx] at hX
  unfold M_stack_Presses_L1
  refine forIn0 (fun k acc2 => acc2 = holesFor l x k) rfl (fun k y acc2 hy hJ next2 hn2 => ?_) (fun acc2 hJ => ?_)
  · have hY := hn2 _ rfl
    have hk := lt_of_get hy
    have hhl := holesFor_len l x k
    rw [holesFor, ← hJ, getD_of hy] at hY
    rw [← hJ] at hhl
    unfold M_stack_Presses_L2
    refine cnd_of (fun e2 => ?_) (fun e2 => ?_)
    · rw [if_pos (by simpa using e2)] at hY
      exact ⟨room_of (by simp only [List.length_append, List.length_singleton]; omega) (by omega), hY⟩
    · rw [if_neg (by simpa using e2), List.append_nil] at hY; exact hY
  · subst hJ
    exact ⟨room_of (by simp only [List.length_append, List.length_singleton]; omega) (by omega), hX⟩
theorem subsOf_len (m : List Material) (s : List Layer) (l : List Through) : (subsOf m s l).length = (allOf m s l).length := by
  rw [← subs_through m s l, List.length_map]
theorem S_ref4_Presses {m : List Material} {s : List Layer} {l : List Through} (hmf : Fits.fits m) (hf : Fits.fits s) {Q : List Press → Int → Prop} (h : Q (pressesOf m s l).1 (pressesOf m s l).2) : M_ref4_Presses m s l Q := by
  unfold M_ref4_Presses
  refine S_ref4_CheckSpans hmf hf (cnd_of (fun e => ?_) (fun e => ?_))
  · have e : spansFault m s l ≠ 0 := by simpa using e
    rw [show pressesOf m s l = ([], spansFault m s l) by unfold pressesOf; rw [if_pos e]] at h; exact h
  have e : spansFault m s l = 0 := by simpa using e
  rw [show pressesOf m s l = (pressTo m s l (allOf m s l).length, 0) by unfold pressesOf; rw [if_neg (fun hh => hh e)]] at h
  obtain ⟨h1, hll, hspan⟩ := spans_ok e
  obtain ⟨hm, hsl, _, _, _, hb⟩ := stack_ok h1
  have hal := allOf_len (m := m) (s := s) (l := l)
  refine S_ref4_subs h1 (span_in e) hll ?_
  refine forIn0 (fun i acc => acc = pressTo m s l i) rfl (fun i x acc hx hI next hn => ?_) (fun acc hI => by subst hI; rw [subsOf_len]; exact h)
  have hX := hn _ rfl
  have hi := lt_of_get hx
  rw [subsOf_len] at hi
  obtain ⟨hg, hcore⟩ := sub_at hx
  have hpl := pressTo_len m s l i
  rw [pressTo, ← hI] at hX
  rw [← hI] at hpl
  unfold pressAt at hX
  rw [getD_of hg, ← hcore] at hX
  unfold M_ref4_Presses_L1
  refine forIn0 (fun k acc2 => acc2 = holesFor l x.Through k) rfl (fun k y acc2 hy hJ next2 hn2 => ?_) (fun acc2 hJ => ?_)
  · have hY := hn2 _ rfl
    have hk := lt_of_get hy
    have hhl := holesFor_len l x.Through k
    rw [holesFor, ← hJ, getD_of hy] at hY
    rw [← hJ] at hhl
    unfold M_ref4_Presses_L2
    refine cnd_of (fun e2 => ?_) (fun e2 => ?_)
    · rw [if_pos (by simpa using e2)] at hY
      exact ⟨room_of (by simp only [List.length_append, List.length_singleton]; omega) (by omega), hY⟩
    · rw [if_neg (by simpa using e2), List.append_nil] at hY; exact hY
  · subst hJ
    exact ⟨room_of (by simp only [List.length_append, List.length_singleton]; omega) (by omega), hX⟩
theorem bump_loop {F : (List Int × Int → Prop) → List Int × Int → Prop} {o : List Int} {b : Through} {n : Nat} (hb1 : 1 ≤ b.From) (hb2 : b.From ≤ b.To) (hb3 : b.To ≤ n) (hn : n ≤ 1000) (ho : o.length = n) {D : List Int → Prop}
    (hF : ∀ (X : List Int × Int → Prop) (l4 : List Int) (c : Int), (if c ≤ b.To then idx l4 (w64 (c - 1)) (fun x1 => X (l4.set ((w64 (c - 1)).toNat) (w64 (x1 + 1)), w64 (c + 1))) else D l4) → F X (l4, c)) (h : D (bump o b (b.To - b.From + 1).toNat)) : lp F (o, b.From) := by
  refine lp_upto (fun k => (bump o b k, b.From + (k : Int))) (b.To - b.From + 1).toNat (by rw [bump_zero]; simp) (fun X k hk hX => ?_) (fun X => ?_)
  · refine hF X _ _ ?_
    have hX : X (bump o b (k + 1), b.From + ((k + 1 : Nat) : Int)) := hX
    rw [if_pos (by omega), w64_id (n := b.From + (k : Int) - 1) (by omega) (by omega), w64_id (n := b.From + (k : Int) + 1) (by omega) (by omega)]
    have hlt : (b.From + (k : Int) - 1).toNat < (bump o b k).length := by rw [bump_len]; omega
    refine idx_of (by omega) (List.getElem?_eq_getElem hlt) ?_
    rw [bump_step hb1 (by omega) (List.getElem?_eq_getElem hlt)]
    rw [show b.From + (k : Int) + 1 = b.From + ((k + 1 : Nat) : Int) by omega]
    exact hX
  · refine hF X _ _ ?_
    rw [if_neg (by omega)]; exact h
theorem lp_now {σ : Type} {F : (σ → Prop) → σ → Prop} {s : σ} (h : ∀ X, F X s) : lp F s :=
  lp_upto (fun _ => s) 0 rfl (fun _ _ hm => absurd hm (by omega)) h
theorem drop_all_in {m : List Material} {s : List Layer} {l : List Through} (h : spansFault m s l = 0) : ∀ x ∈ allOf m s l, 1 ≤ x.From ∧ x.From ≤ x.To ∧ x.To ≤ (copOf m s).length := fun x hx => by
  have := (all_facts h).2.1 x hx; omega
def bumpAll (o : List Int) (b : Through) : List Int := bump o b (b.To - b.From + 1).toNat
theorem bumps_len (p : List Through) (n : Nat) : (p.foldl bumpAll (List.replicate n 0)).length = n := by
  exact (cyc_len p (List.replicate n 0)).trans (by simp)
theorem S_stack_Cycles {m : List Material} {s : List Layer} {l : List Through} (hmf : Fits.fits m) (hf : Fits.fits s) {Q : List Int → Int → Prop} (h : Q (cyclesOf m s l).1 (cyclesOf m s l).2) : M_stack_Cycles m s l Q := by
  unfold M_stack_Cycles
  refine S_stack_CheckSpans hmf hf (cnd_of (fun e => ?_) (fun e => ?_))
  · have e : spansFault m s l ≠ 0 := by simpa using e
    rw [show cyclesOf m s l = ([], spansFault m s l) by unfold cyclesOf; rw [if_pos e]] at h; exact h
  have e : spansFault m s l = 0 := by simpa using e
  rw [show cyclesOf m s l = (cycOf m s l, 0) by unfold cyclesOf; rw [if_neg (fun hh => hh e)]] at h
  have h : Q (((allOf m s l).drop (coresOf m s).length).foldl bumpAll (List.replicate (copOf m s).length 0)) 0 := h
  obtain ⟨h1, hll, hspan⟩ := spans_ok e
  obtain ⟨hm, hsl, _, _, _, hb⟩ := stack_ok h1
  have hcp := copOf_len m s
  have hal := allOf_len (m := m) (s := s) (l := l)
  have hcl : (coresOf m s).length ≤ (allOf m s l).length := by unfold allOf; rw [List.length_append]; omega
  refine S_stack_boards hm hsl (span_in e) hll ?_
  refine S_stack_coppers hm (by omega) ⟨⟨by omega, by omega⟩, ⟨by omega, by omega, by omega⟩, ?_⟩
  have hseg : seg (allOf m s l) ((coresOf m s).length : Int) ((allOf m s l).length : Int) = (allOf m s l).drop (coresOf m s).length := by unfold seg; rw [Int.toNat_natCast, Int.toNat_natCast, List.take_length]
  rw [hseg]
  refine forIn0 (fun i o => o = (((allOf m s l).drop (coresOf m s).length).take i).foldl bumpAll (List.replicate (copOf m s).length 0)) rfl (fun i x o hx hI next hn => ?_) (fun o hI => by subst hI; rw [List.take_length]; exact h)
  have hX := hn _ rfl
  have ho := bumps_len (((allOf m s l).drop (coresOf m s).length).take i) (copOf m s).length
  rw [take_foldl_succ _ _ _ _ _ hx, ← hI] at hX
  rw [← hI] at ho
  obtain ⟨b1, b2, b3⟩ := drop_all_in e x (List.mem_of_mem_drop (List.mem_of_getElem? hx))
  unfold M_stack_Cycles_L1
  refine bump_loop b1 b2 b3 (by omega) ho (fun X l4 c hh => ?_) hX
  unfold M_stack_Cycles_L2
  exact cnd_iff.2 (by simpa using hh)
theorem S_ref4_Cycles {m : List Material} {s : List Layer} {l : List Through} (hmf : Fits.fits m) (hf : Fits.fits s) {Q : List Int → Int → Prop} (h : Q (cyclesOf m s l).1 (cyclesOf m s l).2) : M_ref4_Cycles m s l Q := by
  unfold M_ref4_Cycles
  refine S_ref4_CheckSpans hmf hf (cnd_of (fun e => ?_) (fun e => ?_))
  · have e : spansFault m s l ≠ 0 := by simpa using e
    rw [show cyclesOf m s l = ([], spansFault m s l) by unfold cyclesOf; rw [if_pos e]] at h; exact h
  have e : spansFault m s l = 0 := by simpa using e
  rw [show cyclesOf m s l = (cycOf m s l, 0) by unfold cyclesOf; rw [if_neg (fun hh => hh e)]] at h
  have h : Q (((allOf m s l).drop (coresOf m s).length).foldl bumpAll (List.replicate (copOf m s).length 0)) 0 := h
  obtain ⟨h1, hll, hspan⟩ := spans_ok e
  obtain ⟨hm, hsl, _, _, _, hb⟩ := stack_ok h1
  have hcp := copOf_len m s
  refine S_ref4_coppers (by omega) ⟨⟨by omega, by omega⟩, ?_⟩
  refine S_ref4_subs h1 (span_in e) hll ?_
  refine forIn0 (fun i o => o = (((allOf m s l).take i).drop (coresOf m s).length).foldl bumpAll (List.replicate (copOf m s).length 0)) (by simp) (fun i x o hx hI next hn => ?_) (fun o hI => by subst hI; rw [subsOf_len, List.take_length]; exact h)
  obtain ⟨hg, hcore⟩ := sub_at hx
  have hgl := lt_of_get hg
  have ho := bumps_len (((allOf m s l).take i).drop (coresOf m s).length) (copOf m s).length
  rw [← hI] at ho
  obtain ⟨b1, b2, b3⟩ := drop_all_in e _ (List.mem_of_getElem? hg)
  unfold M_ref4_Cycles_L1
  by_cases hc : i < (coresOf m s).length
  · refine lp_now (fun X => ?_)
    have hcore : x.core = true := by rw [hcore]; exact decide_eq_true (by omega)
    have hN := hn o (by
      rw [hI, List.drop_eq_nil_of_le (by rw [List.length_take]; omega), List.drop_eq_nil_of_le (by rw [List.length_take]; omega)])
    unfold M_ref4_Cycles_L2 M_ref4_Cycles_k3
    rw [hcore]
    exact cnd_of (fun _ => cnd_of (fun e => by cases e) (fun _ => hN)) (fun _ => cnd_of (fun e => by cases e) (fun _ => hN))
  · have hcore : x.core = false := by rw [hcore]; exact decide_eq_false (by omega)
    have hX := hn _ rfl
    have hta : ((allOf m s l).take (i + 1)).drop (coresOf m s).length = ((allOf m s l).take i).drop (coresOf m s).length ++ [x.Through] := by
      rw [List.take_add_one, hg]
      rw [List.drop_append_of_le_length (by rw [List.length_take]; omega)]
      rfl
    rw [hta, List.foldl_append, ← hI] at hX
    refine bump_loop b1 b2 b3 (by omega) ho (fun X l4 c hh => ?_) hX
    unfold M_ref4_Cycles_L2 M_ref4_Cycles_k3
    rw [hcore]
    refine cnd_of (fun e1 => cnd_of (fun _ => ?_) (fun e => by cases e)) (fun e1 => cnd_of (fun e => by cases e) (fun _ => ?_))
    · rw [if_pos (by simpa using e1)] at hh; exact hh
    · rw [if_neg (by simpa using e1)] at hh; exact hh
theorem S_ref4_SamePresses_self {a : List Press} {Q : Bool → Prop} (h : Q true) : M_ref4_SamePresses a a Q := by
  unfold M_ref4_SamePresses
  refine cnd_of (fun e => by simp at e) (fun _ => ?_)
  refine forIn0 (fun _ _ => True) trivial (fun k x s hx _ next hn => ?_) (fun _ _ => h)
  unfold M_ref4_SamePresses_L1 M_ref4_SamePresses_k2
  have hN := hn () trivial
  refine idx_nat hx ?_
  refine cnd_of (fun e => by simp at e) (fun _ => cnd_of (fun e => by simp at e) (fun _ => cnd_of (fun e => by simp at e) (fun _ => S_equal_int ?_)))
  exact cnd_of (fun e => by simp at e) (fun _ => hN)
theorem law_Presses_true (m : List Material) (s : List Layer) (l : List Through) (hmf : Fits.fits m) (hf : Fits.fits s) : M_law_Presses m s l (· = true) := by
  unfold M_law_Presses
  refine S_stack_Presses hmf hf (S_ref4_Presses hmf hf (S_stack_CheckSpans hmf hf (S_ref4_CheckSpans hmf hf ?_)))
  refine cnd_of (fun e => by simp at e) (fun _ => cnd_of (fun e => by simp at e) (fun _ => S_ref4_SamePresses_self ?_))
  unfold M_law_Presses_k1
  refine cnd_of (fun e => by simp at e) (fun _ => S_stack_Cycles hmf hf (S_ref4_Cycles hmf hf ?_))
  exact cnd_of (fun _ => S_equal_int (cnd_of (fun _ => S_awake rfl) (fun e => by simp at e))) (fun e => by simp at e)
end Go.Proofs.Ytjkkefhfbcgahaa

/- Chapter 8: what the checks of jobs, the changes and the seconds come to. -/
import Derived.Test.YtmopdabkfklefaaDrillF
import Derived.Test.YtmopdabkfklefaaDrillE2
namespace Go.Proofs.Ytmopdabkfklefaa
open Go Go.RowKit
set_option linter.unusedVariables false

theorem seg_take {α : Type} (l : List α) (k : Nat) : seg l (0 : Int) (k : Int) = l.take k := by simp [seg]
theorem S_contains_sameTool {l : List Job} {x : Job} {Q : Bool → Prop} (h : Q (l.any (fun y => y.Tool == x.Tool))) : M_contains_sameTool l x Q := by
  unfold M_contains_sameTool M_index_sameTool
  refine forIn_find (fun y => y.Tool == x.Tool) (fun k y next h => ?_) l 0 (A := fun i => Q (decide ((i : Int) ≥ 0))) ?_
  · unfold M_index_sameTool_L1 M_CheckJobs1; exact cnd_iff.2 h
  · cases hf : l.findIdx? (fun y => y.Tool == x.Tool) with
    | none =>
      rw [List.findIdx?_eq_none_iff] at hf
      have : l.any (fun y => y.Tool == x.Tool) = false := by rw [List.any_eq_false]; intro y hy; simp [hf y hy]
      rw [this] at h; simpa using h
    | some i =>
      have h2 := List.findIdx?_eq_some_iff_getElem.1 hf
      obtain ⟨hlt, h3, _⟩ := h2
      have : l.any (fun y => y.Tool == x.Tool) = true := List.any_eq_true.2 ⟨_, List.getElem_mem hlt, h3⟩
      rw [this] at h; simpa using h

/-! ### jobs -/
def jobBad (t : List Bit) (j : List Job) (k : Nat) (x : Job) : Int :=
  if findTool t x.Tool = none then 9 else if (j.take k).any (fun y => y.Tool == x.Tool) = true then 7 else holesFault x.Holes
def holesTo (j : List Job) (k : Nat) : List Hole := (j.take k).flatMap (·.Holes)
def jobsFault (t : List Bit) (j : List Job) : Int :=
  if toolsFault t ≠ 0 then toolsFault t else if (j.length : Int) > 100 then 2 else if firstBad (jobBad t j) j 0 ≠ 0 then firstBad (jobBad t j) j 0 else if ((holesTo j j.length).length : Int) > 2000 then 2 else 0
theorem holesTo_succ {j : List Job} {k : Nat} {x : Job} (hx : j[k]? = some x) : holesTo j (k + 1) = holesTo j k ++ x.Holes := by
  unfold holesTo
  rw [List.take_add_one, hx, List.flatMap_append]; simp
theorem jobBad_len {t : List Bit} {j : List Job} {k : Nat} {x : Job} (h : jobBad t j k x = 0) : x.Holes.length ≤ 2000 ∧ holesFault x.Holes = 0 ∧ ∃ b, findTool t x.Tool = some b := by
  unfold jobBad at h
  split at h; · omega
  rename_i h1
  split at h; · omega
  exact ⟨holes_len h, h, Option.ne_none_iff_exists'.1 h1⟩
theorem holesTo_len {j : List Job} : ∀ k, (∀ i y, i < k → j[i]? = some y → y.Holes.length ≤ 2000) → (holesTo j k).length ≤ k * 2000
  | 0, _ => by simp [holesTo]
  | k + 1, h => by
    have ih := holesTo_len k (fun i y hi hy => h i y (by omega) hy)
    cases hx : j[k]? with
    | none => have e : holesTo j (k + 1) = holesTo j k := by unfold holesTo; rw [List.take_add_one, hx]; simp
              rw [e]; exact Nat.le_trans ih (Nat.mul_le_mul_right _ (Nat.le_succ _))
    | some x => rw [holesTo_succ hx, List.length_append]; have := h k x (by omega) hx; omega
theorem S_drill_CheckJobs {t : List Bit} {j : List Job} (ht : Fits.fits t) {Q : Int → Prop} (h : Q (jobsFault t j)) : M_drill_CheckJobs t j Q := by
  unfold M_drill_CheckJobs
  unfold jobsFault at h
  refine S_drill_CheckTools ht (cnd_of (fun e => ?_) (fun e => cnd_of (fun e2 => ?_) (fun e2 => ?_)))
  · rw [if_pos (by simpa using e)] at h; exact h
  · rw [if_neg (by simpa using e), if_pos (by simpa using e2)] at h; exact h
  · have e' : toolsFault t = 0 := by simpa using e
    rw [if_neg (by simpa using e), if_neg (by simpa using e2)] at h
    obtain ⟨hl, hr, _⟩ := tools_ok e'
    have hj : j.length ≤ 100 := by simp at e2; omega
    refine forIn_firstS (jobBad t j) (fun k => ((holesTo j k).length : Int)) (by simp [holesTo]) (A := Q) (fun i x next hx hf hA => ?_) (fun i x next hx hf hb hn => ?_) (fun h0 => by rw [if_pos h0] at h; exact h) (fun h0 => ?_)
    · unfold M_drill_CheckJobs_L1
      unfold jobBad at hf hA
      refine S_drill_toolAt hr hl ?_
      cases hft : findTool t x.Tool with
      | none => simp only [hft, if_true] at hA; simpa using hA
      | some b =>
        have hi := lt_of_get hx
        simp only [hft, reduceCtorEq, if_false] at hf hA
        simp only [Bool.not_true, cnd_false]
        refine ⟨by omega, S_contains_sameTool ?_⟩
        rw [seg_take]
        split at hA
        · rename_i h2; rw [h2, cnd_true]; exact hA
        · rename_i h2
          simp only [Bool.not_eq_true] at h2
          rw [h2, cnd_false]
          refine S_drill_CheckHoles (cnd_of (fun _ => hA) (fun e3 => ?_))
          rw [if_neg (by simp [h2])] at hf
          simp at e3; exact absurd e3 hf
    · unfold M_drill_CheckJobs_L1
      obtain ⟨hlen, hh, b, hft⟩ := jobBad_len hf
      unfold jobBad at hf
      have hi := lt_of_get hx
      refine S_drill_toolAt hr hl ?_
      rw [hft]
      simp only [Bool.not_true, cnd_false]
      refine ⟨by omega, S_contains_sameTool ?_⟩
      rw [seg_take]
      simp only [hft, reduceCtorEq, if_false] at hf
      split at hf
      · omega
      · rename_i h2
        simp only [Bool.not_eq_true] at h2
        rw [h2, cnd_false]
        refine S_drill_CheckHoles ?_
        rw [hh]
        simp only [bne_self_eq_false, cnd_false]
        have hb2 := holesTo_len (j := j) i (fun k y hk hy => (jobBad_len (hb k y hk hy)).1)
        have hw : w64 (((holesTo j i).length : Int) + (x.Holes.length : Int)) = ((holesTo j (i + 1)).length : Int) := by
          rw [holesTo_succ hx, List.length_append, w64_id] <;> omega
        rw [hw]; exact hn
    · rw [if_neg (by simpa using h0)] at h
      refine cnd_of (fun e3 => ?_) (fun e3 => ?_)
      · rw [if_pos (by simpa using e3)] at h; exact h
      · rw [if_neg (by simpa using e3)] at h; exact h
theorem S_ref8_CheckJobs {t : List Bit} {j : List Job} (ht : Fits.fits t) {Q : Int → Prop} (h : Q (jobsFault t j)) : M_ref8_CheckJobs t j Q := by
  unfold M_ref8_CheckJobs
  unfold jobsFault at h
  refine S_ref8_CheckTools ht (cnd_of (fun e => ?_) (fun e => cnd_of (fun e2 => ?_) (fun e2 => ?_)))
  · rw [if_pos (by simpa using e)] at h; exact h
  · rw [if_neg (by simpa using e), if_pos (by simpa using e2)] at h; exact h
  · have e' : toolsFault t = 0 := by simpa using e
    rw [if_neg (by simpa using e), if_neg (by simpa using e2)] at h
    have hj : j.length ≤ 100 := by simp at e2; omega
    have bit : ∀ (x : Job) (K : Int → Prop), (findTool t x.Tool = none → K (-1)) → (∀ i : Nat, K (i : Int)) → M_ref8_bitOf t x.Tool K := by
      intro x K h1 h2
      refine S_ref8_bitOf ?_
      have := findTool_idx (t := t) (name := x.Tool)
      split <;> rename_i hfi
      · exact h2 _
      · rw [hfi] at this; exact h1 this
    refine forIn_firstS (jobBad t j) (fun k => ((holesTo j k).length : Int)) (by simp [holesTo]) (A := Q) (fun i x next hx hf hA => ?_) (fun i x next hx hf hb hn => ?_) (fun h0 => by rw [if_pos h0] at h; exact h) (fun h0 => ?_)
    · unfold M_ref8_CheckJobs_L1
      unfold jobBad at hf hA
      have hi := lt_of_get hx
      refine S_ref8_bitOf ?_
      have hfi := findTool_idx (t := t) (name := x.Tool)
      split at hfi <;> rename_i e3
      · obtain ⟨b, hb, hft⟩ := hfi
        rename_i k
        simp only [show decide ((k : Int) < 0) = false from decide_eq_false (by omega), cnd_false]
        refine ⟨by omega, ?_⟩
        rw [seg_take]
        simp only [hft, reduceCtorEq, if_false] at hf hA
        refine forIn_any (fun y => y.Tool == x.Tool) (fun k y next h => by unfold M_ref8_CheckJobs_L2; rw [cnd_iff]; exact h) (j.take i) 0 (A := Q 7) ?_
        split
        · rename_i h2; rw [if_pos h2] at hA; exact hA
        · rename_i h2
          rw [if_neg h2] at hA hf
          refine S_ref8_CheckHoles (cnd_of (fun _ => hA) (fun e3 => ?_))
          simp at e3; exact absurd e3 hf
      · simp only [hfi, if_true] at hA
        simpa using hA
    · unfold M_ref8_CheckJobs_L1
      obtain ⟨hlen, hh, b, hft⟩ := jobBad_len hf
      unfold jobBad at hf
      have hi := lt_of_get hx
      refine S_ref8_bitOf ?_
      have hfi := findTool_idx (t := t) (name := x.Tool)
      split at hfi <;> rename_i e3
      · rename_i k
        simp only [show decide ((k : Int) < 0) = false from decide_eq_false (by omega), cnd_false]
        refine ⟨by omega, ?_⟩
        rw [seg_take]
        simp only [hft, reduceCtorEq, if_false] at hf
        refine forIn_any (fun y => y.Tool == x.Tool) (fun k y next h => by unfold M_ref8_CheckJobs_L2; rw [cnd_iff]; exact h) (j.take i) 0 (A := Q 7) ?_
        split
        · rename_i h2; rw [if_pos h2] at hf; omega
        · refine S_ref8_CheckHoles ?_
          rw [hh]
          simp only [bne_self_eq_false, cnd_false]
          have hb2 := holesTo_len (j := j) i (fun k y hk hy => (jobBad_len (hb k y hk hy)).1)
          have hw : w64 (((holesTo j i).length : Int) + (x.Holes.length : Int)) = ((holesTo j (i + 1)).length : Int) := by
            rw [holesTo_succ hx, List.length_append, w64_id] <;> omega
          rw [hw]; exact hn
      · rw [hfi] at hft; cases hft
    · rw [if_neg (by simpa using h0)] at h
      refine cnd_of (fun e3 => ?_) (fun e3 => ?_)
      · rw [if_pos (by simpa using e3)] at h; exact h
      · rw [if_neg (by simpa using e3)] at h; exact h
theorem jobs_ok {t : List Bit} {j : List Job} (h : jobsFault t j = 0) : toolsFault t = 0 ∧ j.length ≤ 100 ∧ (∀ i x, j[i]? = some x → jobBad t j i x = 0) ∧ (holesTo j j.length).length ≤ 2000 := by
  unfold jobsFault at h
  split at h
  · rename_i h1; exact absurd h h1
  · rename_i h1
    split at h; · omega
    split at h
    · rename_i h3; exact absurd h h3
    · rename_i h3
      split at h; · omega
      refine ⟨Decidable.not_not.1 h1, by omega, fun i x hx => ?_, by omega⟩
      have := firstBad_zero (Decidable.not_not.1 h3) i x hx
      rwa [Nat.zero_add] at this

/-! ### changes of bits -/
def toolOf (t : List Bit) (x : Job) : Bit := (findTool t x.Tool).getD default
def lifeOf (t : List Bit) (x : Job) : Nat := (toolOf t x).Life.toNat
def manyOf (t : List Bit) (x : Job) : Nat := (x.Holes.length - 1) / lifeOf t x
def changesAt (t : List Bit) (x : Job) (k : Nat) (m : Nat) : List Change := (List.range m).map (fun i => ⟨x.Tool, (k : Int), (((i + 1) * lifeOf t x : Nat) : Int)⟩)
def stackBad (t : List Bit) (k : Nat) (x : Job) : Int := if (toolOf t x).Stack < (manyOf t x : Int) + 1 then 9 else 0
def changesTo (t : List Bit) (j : List Job) : Nat → List Change
  | 0 => []
  | k + 1 => changesTo t j k ++ changesAt t (j.getD k default) k (manyOf t (j.getD k default))
def changesFault (t : List Bit) (j : List Job) : Int := if jobsFault t j ≠ 0 then jobsFault t j else firstBad (stackBad t) j 0
theorem findTool_mem {t : List Bit} {name : Str} {b : Bit} (h : findTool t name = some b) : b ∈ t ∧ b.Name = name := by
  unfold findTool at h
  exact ⟨List.mem_of_find?_eq_some h, by simpa using List.find?_some h⟩
theorem life_ok {t : List Bit} {j : List Job} (h : jobsFault t j = 0) {i : Nat} {x : Job} (hx : j[i]? = some x) : findTool t x.Tool = some (toolOf t x) ∧ (toolOf t x).Life = (lifeOf t x : Int) ∧ 1 ≤ lifeOf t x ∧ lifeOf t x ≤ 2000 ∧ x.Holes.length ≤ 2000 := by
  obtain ⟨h1, h2, h3, _⟩ := jobs_ok h
  obtain ⟨h4, _, b, hb⟩ := jobBad_len (h3 i x hx)
  have hm := findTool_mem hb
  have hl := (tools_ok h1).2.2 b hm.1
  have e : toolOf t x = b := by unfold toolOf; rw [hb]; rfl
  have : 1 ≤ b.Life ∧ b.Life ≤ 2000 := by have := hl.2.2.1; unfold within at this; simpa using this
  unfold lifeOf
  rw [e]
  exact ⟨hb, by omega, by omega, by omega, h4⟩
theorem many_le {t : List Bit} {x : Job} : manyOf t x ≤ x.Holes.length := by
  unfold manyOf
  exact Nat.le_trans (Nat.div_le_self _ _) (Nat.sub_le _ _)
theorem many_lt {t : List Bit} {x : Job} (hl : 1 ≤ lifeOf t x) {m : Nat} (h : m < manyOf t x) : (m + 1) * lifeOf t x < x.Holes.length := by
  unfold manyOf at h
  have h2 : (m + 1) * lifeOf t x ≤ x.Holes.length - 1 := (Nat.le_div_iff_mul_le (by omega)).1 h
  have h3 : 1 * 1 ≤ (m + 1) * lifeOf t x := Nat.mul_le_mul (by omega) hl
  omega
theorem many_ge {t : List Bit} {x : Job} (hl : 1 ≤ lifeOf t x) : x.Holes.length ≤ (manyOf t x + 1) * lifeOf t x := by
  unfold manyOf
  have h1 := Nat.div_add_mod (x.Holes.length - 1) (lifeOf t x)
  have h2 := Nat.mod_lt (x.Holes.length - 1) (show lifeOf t x > 0 by omega)
  rw [Nat.add_mul, Nat.one_mul, Nat.mul_comm]
  omega
theorem changesAt_len {t : List Bit} {x : Job} {k m : Nat} : (changesAt t x k m).length = m := by simp [changesAt]
theorem changesTo_len {t : List Bit} {j : List Job} (h : ∀ (i : Nat) (x : Job), j[i]? = some x → x.Holes.length ≤ 2000) : ∀ k, k ≤ j.length → (changesTo t j k).length ≤ k * 2000
  | 0, _ => by simp [changesTo]
  | k + 1, hk => by
    have ih := changesTo_len (t := t) h k (by omega)
    have hx : j[k]? = some (j.getD k default) := by rw [List.getD_eq_getElem?_getD, List.getElem?_eq_getElem (by omega)]; rfl
    have h1 := h k _ hx
    have h2 := many_le (t := t) (x := j.getD k default)
    simp only [changesTo, List.length_append, changesAt_len]; omega
/-- the changes of one job, as both loops build them -/
theorem changes_loop {t : List Bit} {j : List Job} (h : jobsFault t j = 0) {k : Nat} {x : Job} (hx : j[k]? = some x) {F : (List Change × Int × Int → Prop) → List Change × Int × Int → Prop} {base : List Change} (hb : base.length ≤ 1000000) {done : List Change → Int → Prop}
    (hF : ∀ X s, cnd (decide (s.2.2 < (x.Holes.length : Int))) (must (room (s.1 ++ [(⟨x.Tool, (k : Int), s.2.2⟩ : Change)]).length 32) (X (s.1 ++ [(⟨x.Tool, (k : Int), s.2.2⟩ : Change)], w64 (s.2.1 + 1), w64 (s.2.2 + (toolOf t x).Life)))) (done s.1 (w64 (s.2.1 + 1))) → F X s)
    (hd : done (base ++ changesAt t x k (manyOf t x)) ((manyOf t x : Int) + 1)) : lp F (base, 0, (toolOf t x).Life) := by
  obtain ⟨h1, h2, h3, h4, h5⟩ := life_ok h hx
  have hmany := many_le (t := t) (x := x)
  refine lp_upto (fun m => (base ++ changesAt t x k m, (m : Int), (((m + 1) * lifeOf t x : Nat) : Int))) (manyOf t x) (by rw [h2]; simp [changesAt]) (fun X m hm hX => hF _ _ ?_) (fun X => hF _ _ ?_)
  · have hlt := many_lt h3 hm
    refine cnd_of (fun _ => ⟨?_, ?_⟩) (fun e => ?_)
    · refine room_of ?_ (by omega)
      simp only [List.length_append, changesAt_len, List.length_singleton]; omega
    · have e1 : w64 ((m : Int) + 1) = ((m + 1 : Nat) : Int) := by rw [w64_id] <;> omega
      have e2 : w64 ((((m + 1) * lifeOf t x : Nat) : Int) + (toolOf t x).Life) = (((m + 1 + 1) * lifeOf t x : Nat) : Int) := by
        rw [h2]
        have : (m + 1 + 1) * lifeOf t x = (m + 1) * lifeOf t x + lifeOf t x := by rw [Nat.add_mul (m + 1) 1, Nat.one_mul]
        rw [this, w64_id] <;> omega
      rw [e1, e2]
      have e3 : changesAt t x k (m + 1) = changesAt t x k m ++ [(⟨x.Tool, (k : Int), (((m + 1) * lifeOf t x : Nat) : Int)⟩ : Change)] := by
        unfold changesAt; rw [List.range_succ, List.map_append]; rfl
      rw [e3, ← List.append_assoc] at hX
      exact hX
    · have := of_decide_eq_false e; simp only at this; omega
  · have hge := many_ge (t := t) (x := x) h3
    refine cnd_of (fun e => ?_) (fun _ => ?_)
    · have := of_decide_eq_true e; simp only at this; omega
    · have e1 : w64 ((manyOf t x : Int) + 1) = (manyOf t x : Int) + 1 := by rw [w64_id] <;> omega
      rw [e1]; exact hd
theorem S_drill_changesOf {t : List Bit} {j : List Job} (h0 : jobsFault t j = 0) {Q : List Change → Int → Prop} (h : if firstBad (stackBad t) j 0 = 0 then Q (changesTo t j j.length) 0 else Q [] (firstBad (stackBad t) j 0)) : M_drill_changesOf t j Q := by
  unfold M_drill_changesOf
  obtain ⟨ht, hj, hbad, _⟩ := jobs_ok h0
  have hlen : ∀ (i : Nat) (x : Job), j[i]? = some x → x.Holes.length ≤ 2000 := fun i x hx => (jobBad_len (hbad i x hx)).1
  obtain ⟨hl, hr, _⟩ := tools_ok ht
  have step : ∀ (i : Nat) (x : Job) (next : List Change → Prop), j[i]? = some x → (stackBad t i x ≠ 0 → Q [] (stackBad t i x)) → (stackBad t i x = 0 → next (changesTo t j (i + 1))) → M_drill_changesOf_L1 t Q i x (changesTo t j i) next := by
    intro i x next hx h1 h2
    unfold M_drill_changesOf_L1
    refine S_drill_toolAt hr hl ?_
    rw [(life_ok h0 hx).1]
    refine changes_loop h0 hx (done := fun l n => cnd (decide ((toolOf t x).Stack < n)) (Q [] 9) (next l)) (by have := changesTo_len hlen i (t := t) (by have := lt_of_get hx; omega); have := lt_of_get hx; omega) (fun X s hs => ?_) ?_
    · unfold M_drill_changesOf_L2; exact hs
    · unfold stackBad at h1 h2
      refine cnd_of (fun e => ?_) (fun e => ?_)
      · rw [if_pos (by simpa using e)] at h1; exact h1 (by decide)
      · rw [if_neg (by simpa using e)] at h2
        have := h2 rfl
        rwa [changesTo, getD_of hx] at this
  refine forIn_firstS (stackBad t) (changesTo t j) rfl (A := Q []) (fun i x next hx hf hA => step i x next hx (fun _ => hA) (fun e => absurd e hf)) (fun i x next hx hf hb hn => step i x next hx (fun e => absurd hf e) (fun _ => hn)) (fun e => by rw [if_neg e] at h; exact h) (fun e => by rw [if_pos e] at h; exact h)
theorem S_ref8_changes {t : List Bit} {j : List Job} (h0 : jobsFault t j = 0) {Q : List Change → Int → Prop} (h : if firstBad (stackBad t) j 0 = 0 then Q (changesTo t j j.length) 0 else Q [] (firstBad (stackBad t) j 0)) : M_ref8_changes t j Q := by
  unfold M_ref8_changes
  obtain ⟨ht, hj, hbad, _⟩ := jobs_ok h0
  have hlen : ∀ (i : Nat) (x : Job), j[i]? = some x → x.Holes.length ≤ 2000 := fun i x hx => (jobBad_len (hbad i x hx)).1
  have step : ∀ (i : Nat) (x : Job) (next : List Change → Prop), j[i]? = some x → (stackBad t i x ≠ 0 → Q [] (stackBad t i x)) → (stackBad t i x = 0 → next (changesTo t j (i + 1))) → M_ref8_changes_L1 t Q i x (changesTo t j i) next := by
    intro i x next hx h1 h2
    unfold M_ref8_changes_L1
    refine S_ref8_bitOf ?_
    have hfi := findTool_idx (t := t) (name := x.Tool)
    have hft := (life_ok h0 hx).1
    split at hfi <;> rename_i e3
    · obtain ⟨b, hb, hbt⟩ := hfi
      rw [hft] at hbt
      injection hbt with hbt
      refine idx_nat (x := toolOf t x) (by rw [hbt]; exact hb) ?_
      refine changes_loop h0 hx (done := fun l n => cnd (decide (n > (toolOf t x).Stack)) (Q [] 9) (next l)) (by have := changesTo_len hlen i (t := t) (by have := lt_of_get hx; omega); have := lt_of_get hx; omega) (fun X s hs => ?_) ?_
      · unfold M_ref8_changes_L2; exact hs
      · unfold stackBad at h1 h2
        refine cnd_of (fun e => ?_) (fun e => ?_)
        · rw [if_pos (by simpa using e)] at h1; exact h1 (by decide)
        · rw [if_neg (by simpa using e)] at h2
          have := h2 rfl
          rwa [changesTo, getD_of hx] at this
    · rw [hfi] at hft; cases hft
  refine forIn_firstS (stackBad t) (changesTo t j) rfl (A := Q []) (fun i x next hx hf hA => step i x next hx (fun _ => hA) (fun e => absurd e hf)) (fun i x next hx hf hb hn => step i x next hx (fun e => absurd hf e) (fun _ => hn)) (fun e => by rw [if_neg e] at h; exact h) (fun e => by rw [if_pos e] at h; exact h)
theorem S_drill_Changes {t : List Bit} {j : List Job} (ht : Fits.fits t) {Q : List Change → Int → Prop} (h : if changesFault t j = 0 then Q (changesTo t j j.length) 0 else Q [] (changesFault t j)) : M_drill_Changes t j Q := by
  unfold M_drill_Changes
  unfold changesFault at h
  refine S_drill_CheckJobs ht (cnd_of (fun e => ?_) (fun e => ?_))
  · have e' : jobsFault t j ≠ 0 := by simpa using e
    rw [if_pos e', if_neg e'] at h; exact h
  · have e' : jobsFault t j = 0 := by simpa using e
    refine S_drill_changesOf e' ?_
    simp only [e', ne_eq, not_true, if_false] at h; exact h
theorem S_ref8_Changes {t : List Bit} {j : List Job} (ht : Fits.fits t) {Q : List Change → Int → Prop} (h : if changesFault t j = 0 then Q (changesTo t j j.length) 0 else Q [] (changesFault t j)) : M_ref8_Changes t j Q := by
  unfold M_ref8_Changes
  unfold changesFault at h
  refine S_ref8_CheckJobs ht (cnd_of (fun e => ?_) (fun e => ?_))
  · have e' : jobsFault t j ≠ 0 := by simpa using e
    rw [if_pos e', if_neg e'] at h; exact h
  · have e' : jobsFault t j = 0 := by simpa using e
    refine S_ref8_changes e' ?_
    simp only [e', ne_eq, not_true, if_false] at h; exact h
end Go.Proofs.Ytmopdabkfklefaa

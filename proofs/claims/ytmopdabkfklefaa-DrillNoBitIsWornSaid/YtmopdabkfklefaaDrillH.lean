/- Chapter 8: the seconds; a faster machine takes no longer; no bit is worn. -/
import Derived.Test.YtmopdabkfklefaaDrillG
namespace Go.Proofs.Ytmopdabkfklefaa
open Go Go.RowKit
set_option linter.unusedVariables false

/-! ### how far and how deep -/
def okAt (p : Point) : Prop := -1000000 ≤ p.X ∧ p.X ≤ 1000000 ∧ -1000000 ≤ p.Y ∧ p.Y ≤ 1000000
theorem okAt_of {p : Point} (h : isPoint p = true) : okAt p := by
  unfold isPoint within at h; unfold okAt; simp at h; omega
theorem far_range {p q : Point} (hp : okAt p) (hq : okAt q) : 0 ≤ far p q ∧ far p q ≤ 2000000 := by
  unfold okAt at hp hq
  unfold far apart
  rw [w64_id (by omega) (by omega), w64_id (by omega) (by omega), w64_id (by omega) (by omega), w64_id (by omega) (by omega)]
  omega
def lastP : Point → List Hole → Point
  | p, [] => p
  | _, h :: r => lastP h.At r
def farSum : Point → List Hole → Int
  | _, [] => 0
  | p, h :: r => far p h.At + farSum h.At r
def deepSum : List Hole → Int
  | [] => 0
  | h :: r => (h.Depth + 99) / 100 + deepSum r
def okHole (h : Hole) : Prop := okAt h.At ∧ 1 ≤ h.Depth ∧ h.Depth ≤ 100000
theorem lastP_snoc (p : Point) (l : List Hole) (h : Hole) : lastP p (l ++ [h]) = h.At := by
  induction l generalizing p with
  | nil => rfl
  | cons x r ih => exact ih _
theorem farSum_snoc (p : Point) (l : List Hole) (h : Hole) : farSum p (l ++ [h]) = farSum p l + far (lastP p l) h.At := by
  induction l generalizing p with
  | nil => simp [farSum, lastP]
  | cons x r ih => simp only [List.cons_append, farSum, lastP, ih]; omega
theorem deepSum_snoc (l : List Hole) (h : Hole) : deepSum (l ++ [h]) = deepSum l + (h.Depth + 99) / 100 := by
  induction l with
  | nil => simp [deepSum]
  | cons x r ih => simp only [List.cons_append, deepSum, ih]; omega
theorem lastP_ok {p : Point} {l : List Hole} (hp : okAt p) (hl : ∀ h ∈ l, okHole h) : okAt (lastP p l) := by
  induction l generalizing p with
  | nil => exact hp
  | cons x r ih => exact ih (hl x (List.mem_cons_self ..)).1 (fun h hh => hl h (List.mem_cons_of_mem _ hh))
theorem farSum_range {p : Point} {l : List Hole} (hp : okAt p) (hl : ∀ h ∈ l, okHole h) : 0 ≤ farSum p l ∧ farSum p l ≤ 2000000 * l.length := by
  induction l generalizing p with
  | nil => simp [farSum]
  | cons x r ih =>
    have h1 := far_range hp (hl x (List.mem_cons_self ..)).1
    have h2 := ih (hl x (List.mem_cons_self ..)).1 (fun h hh => hl h (List.mem_cons_of_mem _ hh))
    simp only [farSum, List.length_cons]; omega
theorem deepSum_range {l : List Hole} (hl : ∀ h ∈ l, okHole h) : 0 ≤ deepSum l ∧ deepSum l ≤ 1001 * l.length := by
  induction l with
  | nil => simp [deepSum]
  | cons x r ih =>
    have h1 := (hl x (List.mem_cons_self ..)).2
    have h2 := ih (fun h hh => hl h (List.mem_cons_of_mem _ hh))
    simp only [deepSum, List.length_cons]; omega
theorem deep_w {h : Hole} (hh : okHole h) : w64 ((w64 (h.Depth + 99)).tdiv 100) = (h.Depth + 99) / 100 := by
  have := hh.2
  rw [w64_id (n := h.Depth + 99) (by omega) (by omega), Int.tdiv_eq_ediv_of_nonneg (by omega), w64_id (by omega) (by omega)]
theorem wayTo_far {l : List Hole} {p : Point} (hp : okAt p) (hl : ∀ h ∈ l, okHole h) (hn : l.length ≤ 2000) : wayTo (l.map (·.At)) p = farSum p l := by
  unfold wayTo
  have key : ∀ (l : List Hole) (k : Nat) (p : Point) (s : Int), okAt p → (∀ h ∈ l, okHole h) → 0 ≤ s → s + 2000000 * l.length ≤ 9000000000 → (((l.map (·.At)).zipIdx k).foldl (fun (s : Point × Int) p => (p.1, w64 (s.2 + far s.1 p.1))) (p, s)).2 = s + farSum p l := by
    intro l
    induction l with
    | nil => intro k p s _ _ _ _; simp [farSum]
    | cons x r ih =>
      intro k p s hp hl h0 h1
      have hx := (hl x (List.mem_cons_self ..)).1
      have hf := far_range hp hx
      simp only [List.length_cons] at h1
      simp only [List.map_cons, List.zipIdx_cons, List.foldl_cons, farSum]
      rw [w64_id (by omega) (by omega), ih (k + 1) x.At (s + far p x.At) hx (fun h hh => hl h (List.mem_cons_of_mem _ hh)) (by omega) (by omega)]
      omega
  rw [key l 0 p 0 hp hl (by omega) (by omega)]; omega

/-! ### the seconds -/
def secondsFault (t : List Bit) (j : List Job) (fr : Point) (speed change : Int) : Int :=
  if changesFault t j ≠ 0 then changesFault t j else if isPoint fr = false ∨ within speed 1 1000000 = false ∨ within change 0 1000000 = false then 1 else 0
def secondsOf (t : List Bit) (j : List Job) (fr : Point) (speed change : Int) : Int :=
  change * ((j.length : Int) + (changesTo t j j.length).length) + deepSum (holesTo j j.length) + (farSum fr (holesTo j j.length) + speed - 1) / speed
theorem changes_ok {t : List Bit} {j : List Job} (h : changesFault t j = 0) : jobsFault t j = 0 ∧ ∀ i x, j[i]? = some x → stackBad t i x = 0 := by
  unfold changesFault at h
  split at h
  · rename_i h1; exact absurd h h1
  · rename_i h1
    exact ⟨Decidable.not_not.1 h1, fun i x hx => by have := firstBad_zero h i x hx; rwa [Nat.zero_add] at this⟩
theorem holes_ok {l : List Hole} (h : holesFault l = 0) : ∀ x ∈ l, okHole x := by
  unfold holesFault at h
  split at h; · omega
  split at h; · omega
  rename_i h2
  intro x hx
  have h3 : holeBad x = false := by
    cases hb : holeBad x with
    | false => rfl
    | true => exact absurd (List.any_eq_true.2 ⟨x, hx, hb⟩) h2
  unfold holeBad at h3
  simp only [Bool.or_eq_false_iff, Bool.not_eq_false'] at h3
  have h4 := h3.2
  unfold within at h4; simp at h4
  exact ⟨okAt_of h3.1.1, h4⟩
theorem holesTo_ok {t : List Bit} {j : List Job} (h : jobsFault t j = 0) (k : Nat) : ∀ x ∈ holesTo j k, okHole x := by
  obtain ⟨_, _, h3, _⟩ := jobs_ok h
  intro x hx
  unfold holesTo at hx
  obtain ⟨y, hy, hxy⟩ := List.mem_flatMap.1 hx
  obtain ⟨i, hi⟩ := List.getElem?_of_mem (List.mem_of_mem_take hy)
  exact holes_ok (jobBad_len (h3 i y hi)).2.1 x hxy
theorem holesTo_mono {j : List Job} {k : Nat} : (holesTo j k).length ≤ (holesTo j j.length).length := by
  unfold holesTo
  rw [List.take_length]
  have : j.flatMap (·.Holes) = (j.take k).flatMap (·.Holes) ++ (j.drop k).flatMap (·.Holes) := by rw [← List.flatMap_append, List.take_append_drop]
  rw [this, List.length_append]; omega
theorem part_holes {t : List Bit} {j : List Job} (h : jobsFault t j = 0) {k : Nat} {x : Job} (hx : j[k]? = some x) (i : Nat) : (holesTo j k ++ x.Holes.take i).length ≤ 2000 ∧ ∀ y ∈ holesTo j k ++ x.Holes.take i, okHole y := by
  obtain ⟨_, _, h3, h4⟩ := jobs_ok h
  constructor
  · have h5 := holesTo_mono (j := j) (k := k + 1)
    rw [holesTo_succ hx, List.length_append] at h5
    rw [List.length_append, List.length_take]; omega
  · intro y hy
    rcases List.mem_append.1 hy with h1 | h1
    · exact holesTo_ok h k y h1
    · exact holes_ok (jobBad_len (h3 k x hx)).2.1 y (List.mem_of_mem_take h1)
theorem seconds_num {t : List Bit} {j : List Job} (h : jobsFault t j = 0) {fr : Point} (hp : isPoint fr = true) {speed change : Int} (hs : within speed 1 1000000 = true) (hc : within change 0 1000000 = true) :
    0 ≤ change * ((j.length : Int) + (changesTo t j j.length).length) ∧ change * ((j.length : Int) + (changesTo t j j.length).length) ≤ 300000000000 ∧ 0 ≤ deepSum (holesTo j j.length) ∧ deepSum (holesTo j j.length) ≤ 2002000 ∧ 0 ≤ farSum fr (holesTo j j.length) ∧ farSum fr (holesTo j j.length) ≤ 4000000000
      ∧ 1 ≤ speed ∧ speed ≤ 1000000 ∧ 0 ≤ change ∧ change ≤ 1000000 ∧ 0 ≤ (farSum fr (holesTo j j.length) + speed - 1) / speed ∧ (farSum fr (holesTo j j.length) + speed - 1) / speed ≤ 5000000000 ∧ (changesTo t j j.length).length ≤ 200000 ∧ j.length ≤ 100 := by
  obtain ⟨_, h2, h3, h4⟩ := jobs_ok h
  have hlen : ∀ (i : Nat) (x : Job), j[i]? = some x → x.Holes.length ≤ 2000 := fun i x hx => (jobBad_len (h3 i x hx)).1
  have hc1 := changesTo_len (t := t) hlen j.length (Nat.le_refl _)
  have hok := holesTo_ok h j.length
  have hd := deepSum_range hok
  have hf := farSum_range (okAt_of hp) hok
  unfold within at hs hc
  simp at hs hc
  have hn : ((j.length : Int) + (changesTo t j j.length).length) ≤ 300000 := by omega
  have hm1 : 0 ≤ change * ((j.length : Int) + (changesTo t j j.length).length) := Int.mul_nonneg hc.1 (by omega)
  have hm2 : change * ((j.length : Int) + (changesTo t j j.length).length) ≤ 1000000 * 300000 := Int.mul_le_mul hc.2 hn (by omega) (by omega)
  have hq0 : 0 ≤ (farSum fr (holesTo j j.length) + speed - 1) / speed := Int.ediv_nonneg (by omega) (by omega)
  have hq1 : (farSum fr (holesTo j j.length) + speed - 1) / speed ≤ farSum fr (holesTo j j.length) + speed - 1 := Int.ediv_le_self _ (by omega)
  refine ⟨hm1, by omega, by omega, by omega, by omega, by omega, hs.1, hs.2, hc.1, hc.2, hq0, by omega, by omega, h2⟩
theorem seconds_bad {Q : Int → Int → Prop} {fr : Point} {speed change : Int} {K : Bool → Prop} (hK : ∀ b, cnd b (Q 0 1) (K false) → K b)
    (h1 : (isPoint fr = false ∨ within speed 1 1000000 = false ∨ within change 0 1000000 = false) → Q 0 1) (h2 : isPoint fr = true → within speed 1 1000000 = true → within change 0 1000000 = true → K false) :
    cnd (!(isPoint fr)) (K true) (cnd (!(within speed 1 1000000)) (K true) (K (!(within change 0 1000000)))) := by
  cases e1 : isPoint fr
  · simp only [Bool.not_false, cnd_true]; exact hK _ (by rw [cnd_true]; exact h1 (.inl e1))
  · cases e2 : within speed 1 1000000
    · simp only [Bool.not_false, Bool.not_true, cnd_true, cnd_false]; exact hK _ (by rw [cnd_true]; exact h1 (.inr (.inl e2)))
    · cases e3 : within change 0 1000000
      · simp only [Bool.not_false, Bool.not_true, cnd_false]; exact hK _ (by rw [cnd_true]; exact h1 (.inr (.inr e3)))
      · simp only [Bool.not_true, cnd_false]; exact h2 e1 e2 e3
theorem S_drill_Seconds {t : List Bit} {j : List Job} (ht : Fits.fits t) {fr : Point} {speed change : Int} {Q : Int → Int → Prop} (h : if secondsFault t j fr speed change = 0 then Q (secondsOf t j fr speed change) 0 else Q 0 (secondsFault t j fr speed change)) : M_drill_Seconds t j fr speed change Q := by
  unfold M_drill_Seconds
  unfold secondsFault at h
  refine S_drill_Changes ht ?_
  split
  · rename_i hcf
    simp only [hcf, ne_eq, not_true, if_false] at h
    simp only [bne_self_eq_false, cnd_false]
    have h0 := (changes_ok hcf).1
    refine seconds_bad (K := M_drill_Seconds_k1 j fr speed change Q (changesTo t j j.length)) (fun b hb => ?_) (fun hbad => by rw [if_pos hbad] at h; simpa using h) (fun h1 h2 h3 => ?_)
    · unfold M_drill_Seconds_k1 at hb ⊢
      rw [cnd_false] at hb; exact hb
    · simp only [h1, h2, h3, Bool.true_eq_false, or_self, if_false, if_true] at h
      obtain ⟨n1, n2, n3, n4, n5, n6, n7, n8, n9, n10, n11, n12, n13, n14⟩ := seconds_num h0 h1 h2 h3
      unfold M_drill_Seconds_k1
      rw [cnd_false]
      have hw0 : w64 ((j.length : Int) + ((changesTo t j j.length).length : Int)) = (j.length : Int) + ((changesTo t j j.length).length : Int) := w64_id (by omega) (by omega)
      rw [hw0, w64_id (n := change * _) (by omega) (by omega)]
      refine forIn0 (fun k s => s = ((holesTo j k).map (·.At), change * ((j.length : Int) + (changesTo t j j.length).length) + deepSum (holesTo j k))) (by simp [holesTo, deepSum]) (fun k x s hx hI next hn => ?_) (fun s hI => ?_)
      · subst hI
        unfold M_drill_Seconds_L1
        refine forIn0 (fun i s => s = ((holesTo j k ++ x.Holes.take i).map (·.At), change * ((j.length : Int) + (changesTo t j j.length).length) + deepSum (holesTo j k ++ x.Holes.take i))) (by simp) (fun i y s hy hI next2 hn2 => ?_) (fun s hI => ?_)
        · subst hI
          have hp := part_holes h0 hx (i + 1)
          have e : holesTo j k ++ x.Holes.take (i + 1) = (holesTo j k ++ x.Holes.take i) ++ [y] := by rw [List.take_add_one, hy]; simp
          rw [e] at hp
          have hyk : okHole y := hp.2 y (by simp)
          have hd := deepSum_range (l := holesTo j k ++ x.Holes.take i) (fun z hz => hp.2 z (List.mem_append_left _ hz))
          have hl := hp.1
          rw [List.length_append, List.length_singleton] at hl
          have hdy := hyk.2
          unfold M_drill_Seconds_L2
          refine ⟨?_, hn2 _ ?_⟩
          · refine room_of ?_ (by omega)
            rw [List.length_append, List.length_map, List.length_singleton]; omega
          · rw [deep_w hyk, e, List.map_append, deepSum_snoc, w64_id (by omega) (by omega)]
            dsimp only
            rw [Int.add_assoc]; simp
        · subst hI
          refine hn _ ?_
          rw [holesTo_succ hx, List.take_length]
      · subst hI
        refine S_drill_way ⟨by omega, ?_⟩
        rw [wayTo_far (okAt_of h1) (holesTo_ok h0 _) (jobs_ok h0).2.2.2]
        rw [w64_id (n := farSum fr _ + speed) (by omega) (by omega), w64_id (n := farSum fr _ + speed - 1) (by omega) (by omega), Int.tdiv_eq_ediv_of_nonneg (by omega), w64_id (n := (_ / speed)) (by omega) (by omega), w64_id (by omega) (by omega)]
        exact h
  · rename_i hcf
    rw [if_pos hcf, if_neg hcf] at h
    rw [show (changesFault t j != 0) = true by simpa using hcf, cnd_true]
    exact h
theorem S_ref8_Seconds {t : List Bit} {j : List Job} (ht : Fits.fits t) {fr : Point} {speed change : Int} {Q : Int → Int → Prop} (h : if secondsFault t j fr speed change = 0 then Q (secondsOf t j fr speed change) 0 else Q 0 (secondsFault t j fr speed change)) : M_ref8_Seconds t j fr speed change Q := by
  unfold M_ref8_Seconds
  unfold secondsFault changesFault at h
  refine S_ref8_CheckJobs ht (cnd_of (fun e => ?_) (fun e => ?_))
  · have e' : jobsFault t j ≠ 0 := by simpa using e
    simp only [e', ne_eq, not_false_eq_true, if_true, if_false] at h; exact h
  have h0 : jobsFault t j = 0 := by simpa using e
  refine S_ref8_changes h0 ?_
  simp only [h0, ne_eq, not_true, if_false] at h
  split
  · rename_i hcf
    simp only [hcf, not_true, if_false] at h
    simp only [bne_self_eq_false, cnd_false]
    refine seconds_bad (K := M_ref8_Seconds_k1 j fr speed change Q (changesTo t j j.length)) (fun b hb => ?_) (fun hbad => by rw [if_pos hbad] at h; simpa using h) (fun h1 h2 h3 => ?_)
    · unfold M_ref8_Seconds_k1 at hb ⊢
      rw [cnd_false] at hb; exact hb
    · simp only [h1, h2, h3, Bool.true_eq_false, or_self, if_false, if_true] at h
      obtain ⟨n1, n2, n3, n4, n5, n6, n7, n8, n9, n10, n11, n12, n13, n14⟩ := seconds_num h0 h1 h2 h3
      unfold M_ref8_Seconds_k1
      rw [cnd_false]
      refine forIn0 (fun k s => s = (lastP fr (holesTo j k), farSum fr (holesTo j k), deepSum (holesTo j k))) (by simp [holesTo, deepSum, farSum, lastP]) (fun k x s hx hI next hn => ?_) (fun s hI => ?_)
      · subst hI
        unfold M_ref8_Seconds_L1
        refine forIn0 (fun i s => s = (lastP fr (holesTo j k ++ x.Holes.take i), farSum fr (holesTo j k ++ x.Holes.take i), deepSum (holesTo j k ++ x.Holes.take i))) (by simp) (fun i y s hy hI next2 hn2 => ?_) (fun s hI => ?_)
        · subst hI
          have hp := part_holes h0 hx (i + 1)
          have e : holesTo j k ++ x.Holes.take (i + 1) = (holesTo j k ++ x.Holes.take i) ++ [y] := by rw [List.take_add_one, hy]; simp
          rw [e] at hp
          have hyk : okHole y := hp.2 y (by simp)
          have hok : ∀ z ∈ holesTo j k ++ x.Holes.take i, okHole z := fun z hz => hp.2 z (List.mem_append_left _ hz)
          have hd := deepSum_range hok
          have hfs := farSum_range (okAt_of h1) hok
          have hl := hp.1
          rw [List.length_append, List.length_singleton] at hl
          have hdy := hyk.2
          have hfr := far_range (lastP_ok (okAt_of h1) hok) hyk.1
          unfold M_ref8_Seconds_L2
          refine hn2 _ ?_
          dsimp only
          rw [deep_w hyk, e, deepSum_snoc, farSum_snoc, lastP_snoc, ← far_eq, w64_id (by omega) (by omega), w64_id (by omega) (by omega)]
        · subst hI
          refine hn _ ?_
          rw [holesTo_succ hx, List.take_length]
      · subst hI
        refine ⟨by omega, ?_⟩
        have hw0 : w64 ((j.length : Int) + ((changesTo t j j.length).length : Int)) = (j.length : Int) + ((changesTo t j j.length).length : Int) := w64_id (by omega) (by omega)
        rw [hw0, w64_id (n := change * _) (by omega) (by omega), w64_id (n := farSum fr _ + speed) (by omega) (by omega), w64_id (n := farSum fr _ + speed - 1) (by omega) (by omega), Int.tdiv_eq_ediv_of_nonneg (by omega), w64_id (n := (_ / speed)) (by omega) (by omega), w64_id (n := deepSum _ + _) (by omega) (by omega), w64_id (by omega) (by omega)]
        unfold secondsOf at h
        rw [show deepSum (holesTo j j.length) + (farSum fr (holesTo j j.length) + speed - 1) / speed + change * ((j.length : Int) + (changesTo t j j.length).length) = change * ((j.length : Int) + (changesTo t j j.length).length) + deepSum (holesTo j j.length) + (farSum fr (holesTo j j.length) + speed - 1) / speed by omega]
        exact h
  · rename_i hcf
    simp only [hcf, not_false_eq_true, if_true, if_false] at h
    rw [show (firstBad (stackBad t) j 0 != 0) = true by simpa using hcf, cnd_true]
    exact h
end Go.Proofs.Ytmopdabkfklefaa

/- Chapter 8: holes given to tools: plain. -/
import Derived.Test.YtmopdabkfklefaaDrillR
namespace Go.Proofs.Ytmopdabkfklefaa
open Go Go.RowKit
set_option linter.unusedVariables false

/-! ### the tool for a size -/
def distOf (b : Bit) (size : Int) : Int := max (b.Size - size) (size - b.Size)
def takesIt (t : List Bit) (size near best : Int) (x : Bit) : Bool := decide (distOf x size ≤ near) && (decide (best < 0) || (decide (distOf x size < distOf (t.getD best.toNat default) size) || (decide (distOf x size = distOf (t.getD best.toNat default) size) && decide (x.Size > (t.getD best.toNat default).Size))))
def toolTo (t : List Bit) (size near : Int) : Nat → Int
  | 0 => -1
  | k + 1 => if takesIt t size near (toolTo t size near k) (t.getD k default) = true then (k : Int) else toolTo t size near k
theorem toolTo_range (t : List Bit) (size near : Int) : ∀ k, -1 ≤ toolTo t size near k ∧ toolTo t size near k < k
  | 0 => by simp [toolTo]
  | k + 1 => by have := toolTo_range t size near k; rw [toolTo]; split <;> omega
theorem toolTo_near (t : List Bit) (size near : Int) : ∀ k, 0 ≤ toolTo t size near k → distOf (t.getD (toolTo t size near k).toNat default) size ≤ near
  | 0, h => by simp [toolTo] at h
  | k + 1, h => by
    rw [toolTo] at h ⊢
    split
    · rename_i e
      rw [Int.toNat_natCast]
      unfold takesIt at e
      simp only [Bool.and_eq_true, decide_eq_true_eq] at e
      exact e.1
    · rename_i e; rw [if_neg e] at h; exact toolTo_near t size near k h
theorem off_dist {b : Bit} {size : Int} (hb : 1 ≤ b.Size ∧ b.Size ≤ 10000) (hs : 1 ≤ size ∧ size ≤ 10000) : offOf b size = distOf b size := by
  unfold offOf distOf
  rw [w64_id (by omega) (by omega), w64_id (by omega) (by omega)]
theorem rabs_dist {b : Bit} {size : Int} (hb : 1 ≤ b.Size ∧ b.Size ≤ 10000) (hs : 1 ≤ size ∧ size ≤ 10000) : rabs (w64 (b.Size - size)) = distOf b size := by
  unfold rabs distOf
  rw [w64_id (n := b.Size - size) (by omega) (by omega), w64_id (by omega) (by omega)]
  omega
theorem or2_lt (a b c d : Int) : orInts [cmp3 a b, cmp3 c d] < 0 ↔ a < b ∨ (a = b ∧ c < d) := by
  unfold orInts cmp3
  rcases Int.lt_trichotomy a b with h | h | h
  · rw [if_pos h]; simp; omega
  · rw [if_neg (by omega), if_neg (by omega)]
    rcases Int.lt_trichotomy c d with h2 | h2 | h2
    · rw [if_pos h2]; simp; omega
    · rw [if_neg (by omega), if_neg (by omega)]; simp; omega
    · rw [if_neg (by omega), if_pos h2]; simp; omega
  · rw [if_neg (by omega), if_pos h]; simp; omega
def BitsOk (t : List Bit) : Prop := ∀ x ∈ t, 1 ≤ x.Size ∧ x.Size ≤ 10000
theorem bits_getD {t : List Bit} (ht : BitsOk t) {i : Nat} (h : i < t.length) : 1 ≤ (t.getD i default).Size ∧ (t.getD i default).Size ≤ 10000 := by
  rw [getD_of (List.getElem?_eq_getElem h)]; exact ht _ (List.getElem_mem h)
theorem S_drill_toolFor {t : List Bit} {size near : Int} (ht : BitsOk t) (hs : 1 ≤ size ∧ size ≤ 10000) {Q : Int → Prop} (h : Q (toolTo t size near t.length)) : M_drill_toolFor t size near Q := by
  unfold M_drill_toolFor
  refine forIn0 (fun k n => n = toolTo t size near k) rfl (fun k x n hx hI next hn => ?_) (fun n hI => by subst hI; exact h)
  have hX := hn _ rfl
  have hk := lt_of_get hx
  have hxs := ht _ (List.mem_of_getElem? hx)
  have hr := toolTo_range t size near k
  rw [toolTo, getD_of hx, ← hI] at hX
  rw [← hI] at hr
  unfold takesIt at hX
  unfold M_drill_toolFor_L1 M_drill_toolFor_k2
  rw [off_dist hxs hs]
  refine cnd_of (fun e => cnd_of (fun e2 => ?_) (fun e2 => ?_)) (fun e => ?_)
  · rw [e, e2] at hX; simpa using hX
  · refine idx_getD (by simp at e2; omega) (by omega) ?_
    rw [off_dist (bits_getD ht (by omega)) hs]
    rw [e, e2] at hX
    refine cnd_of (fun e3 => ?_) (fun e3 => ?_)
    · rw [decide_eq_true_eq, or2_lt] at e3
      rw [if_pos (by simpa using e3)] at hX; exact hX
    · rw [decide_eq_false_iff_not, or2_lt] at e3
      rw [if_neg (by simpa using e3)] at hX; exact hX
  · rw [e] at hX; simpa using hX
theorem S_ref8_toolFor {t : List Bit} {size near : Int} (ht : BitsOk t) (hs : 1 ≤ size ∧ size ≤ 10000) {Q : Int → Prop} (h : Q (toolTo t size near t.length)) : M_ref8_toolFor t size near Q := by
  unfold M_ref8_toolFor
  refine forIn0 (fun k n => n = toolTo t size near k) rfl (fun k x n hx hI next hn => ?_) (fun n hI => by subst hI; exact h)
  have hX := hn _ rfl
  have hk := lt_of_get hx
  have hxs := ht _ (List.mem_of_getElem? hx)
  have hr := toolTo_range t size near k
  rw [toolTo, getD_of hx, ← hI] at hX
  rw [← hI] at hr
  unfold takesIt at hX
  unfold M_ref8_toolFor_L1 M_ref8_toolFor_k2
  rw [rabs_dist hxs hs]
  refine cnd_of (fun e => ?_) (fun e => cnd_of (fun e2 => ?_) (fun e2 => ?_))
  · rw [if_neg (by simp at e ⊢; omega)] at hX; exact hX
  · rw [if_pos (by simp at e e2 ⊢; omega)] at hX; exact hX
  · refine idx_getD (by simp at e2; omega) (by omega) ?_
    rw [rabs_dist (bits_getD ht (by omega)) hs]
    refine cnd_of (fun e3 => ?_) (fun e3 => cnd_of (fun e4 => cnd_of (fun e5 => ?_) (fun e5 => ?_)) (fun e4 => ?_))
    · rw [if_pos (by simp at e e2 e3 ⊢; omega)] at hX; simpa using hX
    · rw [if_pos (by simp at e e2 e3 e4 e5 ⊢; omega)] at hX; exact hX
    · rw [if_neg (by simp at e e2 e3 e4 e5 ⊢; omega)] at hX; exact hX
    · rw [if_neg (by simp at e e2 e3 e4 ⊢; omega)] at hX; simpa using hX
/-! ### the holes of each tool -/
def toolN (t : List Bit) (near : Int) (h : Hole) : Int := toolTo t h.Size near t.length
theorem toolN_range (t : List Bit) (near : Int) (h : Hole) : -1 ≤ toolN t near h ∧ toolN t near h < t.length := toolTo_range t h.Size near t.length
def byAt (t : List Bit) (l : List Hole) (near : Int) (k b : Nat) : List Hole := (l.take k).filter (fun h => decide (toolN t near h = (b : Int)))
def byTo (t : List Bit) (l : List Hole) (near : Int) (k : Nat) : List (List Hole) := (List.range t.length).map (byAt t l near k)
def noneTo (t : List Bit) (l : List Hole) (near : Int) : Nat → List Int
  | 0 => []
  | k + 1 => noneTo t l near k ++ (if toolN t near (l.getD k default) < 0 then [(k : Int)] else [])
theorem noneTo_len (t : List Bit) (l : List Hole) (near : Int) : ∀ k, (noneTo t l near k).length ≤ k
  | 0 => by simp [noneTo]
  | k + 1 => by have := noneTo_len t l near k; simp only [noneTo, List.length_append]; split <;> simp <;> omega
theorem byAt_len (t : List Bit) (l : List Hole) (near : Int) (k b : Nat) : (byAt t l near k b).length ≤ k := by
  unfold byAt
  refine Nat.le_trans (List.length_filter_le _ _) ?_
  rw [List.length_take]; omega
theorem byAt_succ {t : List Bit} {l : List Hole} {near : Int} {k : Nat} {x : Hole} (hx : l[k]? = some x) (b : Nat) : byAt t l near (k + 1) b = byAt t l near k b ++ (if toolN t near x = (b : Int) then [x] else []) := by
  unfold byAt
  rw [List.take_add_one, hx, List.filter_append]
  congr 1
  simp only [Option.toList_some, List.filter_cons, List.filter_nil, decide_eq_true_eq]
theorem byTo_get {t : List Bit} {l : List Hole} {near : Int} {k b : Nat} (hb : b < t.length) : (byTo t l near k)[b]? = some (byAt t l near k b) := by
  unfold byTo; rw [List.getElem?_map, List.getElem?_range hb]; rfl
theorem byTo_len (t : List Bit) (l : List Hole) (near : Int) (k : Nat) : (byTo t l near k).length = t.length := by simp [byTo]
theorem byTo_zero (t : List Bit) (l : List Hole) (near : Int) : List.replicate t.length ([] : List Hole) = byTo t l near 0 := by
  refine List.ext_getElem? (fun j => ?_)
  by_cases hj : j < t.length
  · rw [byTo_get hj, List.getElem?_replicate, if_pos hj]; simp [byAt]
  · rw [List.getElem?_eq_none (by simp; omega), List.getElem?_eq_none (by rw [byTo_len]; omega)]
theorem byTo_none {t : List Bit} {l : List Hole} {near : Int} {k : Nat} {x : Hole} (hx : l[k]? = some x) (hn : toolN t near x < 0) : byTo t l near (k + 1) = byTo t l near k := by
  unfold byTo
  refine List.map_congr_left (fun b _ => ?_)
  rw [byAt_succ hx, if_neg (by omega), List.append_nil]
theorem byTo_some {t : List Bit} {l : List Hole} {near : Int} {k : Nat} {x : Hole} (hx : l[k]? = some x) (hn : ¬ toolN t near x < 0) : (byTo t l near k).set (toolN t near x).toNat (byAt t l near k (toolN t near x).toNat ++ [x]) = byTo t l near (k + 1) := by
  have hr := toolN_range t near x
  refine List.ext_getElem? (fun j => ?_)
  rw [List.getElem?_set, byTo_len]
  by_cases hj : j < t.length
  · rw [byTo_get hj, byTo_get hj, byAt_succ hx]
    by_cases he : (toolN t near x).toNat = j
    · rw [if_pos he, if_pos (by omega), if_pos (by omega), he]
    · rw [if_neg he, if_neg (by omega), List.append_nil]
  · rw [if_neg (by omega), List.getElem?_eq_none (by rw [byTo_len]; omega), List.getElem?_eq_none (by rw [byTo_len]; omega)]
def jobsUp (t : List Bit) (l : List Hole) (near : Int) : Nat → List Job
  | 0 => []
  | b + 1 => jobsUp t l near b ++ (if 0 < (byAt t l near l.length b).length then [⟨(t.getD b default).Name, byAt t l near l.length b⟩] else [])
theorem jobsUp_len (t : List Bit) (l : List Hole) (near : Int) : ∀ b, (jobsUp t l near b).length ≤ b
  | 0 => by simp [jobsUp]
  | b + 1 => by have := jobsUp_len t l near b; simp only [jobsUp, List.length_append]; split <;> simp <;> omega
def chosenFault (t : List Bit) (l : List Hole) (near : Int) : Int :=
  if toolsFault t ≠ 0 then toolsFault t else if holesFault l ≠ 0 then holesFault l else if within near 0 10000 = false then 1 else 0
theorem hole_sizes {l : List Hole} (h : holesFault l = 0) : ∀ x ∈ l, 1 ≤ x.Size ∧ x.Size ≤ 10000 := fun x hx => by
  unfold holesFault at h
  split at h; · omega
  split at h; · omega
  rename_i h2
  have := List.any_eq_false.1 ((Bool.not_eq_true _).mp h2) x hx
  unfold holeBad within at this
  simp at this
  omega
theorem bits_ok {t : List Bit} (h : toolsFault t = 0) : t.length ≤ 100 ∧ BitsOk t := by
  obtain ⟨h1, _, h3⟩ := tools_ok h
  refine ⟨h1, fun x hx => ?_⟩
  have := (h3 x hx).2.1
  unfold within at this
  simp at this
  exact this
theorem S_drill_Chosen {t : List Bit} {l : List Hole} {near : Int} (ht : Fits.fits t) {Q : List Job → List Int → Int → Prop} (h : if chosenFault t l near = 0 then Q (jobsUp t l near t.length) (noneTo t l near l.length) 0 else Q [] [] (chosenFault t l near)) : M_drill_Chosen t l near Q := by
  unfold M_drill_Chosen
  refine S_drill_CheckTools ht (cnd_of (fun e => ?_) (fun e => ?_))
  · have e : toolsFault t ≠ 0 := by simpa using e
    rw [show chosenFault t l near = toolsFault t by unfold chosenFault; rw [if_pos e], if_neg e] at h; exact h
  have e : toolsFault t = 0 := by simpa using e
  refine S_drill_CheckHoles (cnd_of (fun e2 => ?_) (fun e2 => ?_))
  · have e2 : holesFault l ≠ 0 := by simpa using e2
    rw [show chosenFault t l near = holesFault l by unfold chosenFault; rw [if_neg (fun hh => hh e), if_pos e2], if_neg e2] at h; exact h
  have e2 : holesFault l = 0 := by simpa using e2
  refine cnd_of (fun e3 => ?_) (fun e3 => ?_)
  · rw [show chosenFault t l near = 1 by unfold chosenFault; rw [if_neg (fun hh => hh e), if_neg (fun hh => hh e2), if_pos (by simpa using e3)], if_neg (by decide)] at h; exact h
  rw [show chosenFault t l near = 0 by unfold chosenFault; rw [if_neg (fun hh => hh e), if_neg (fun hh => hh e2), if_neg (by simpa using e3)], if_pos rfl] at h
  obtain ⟨htl, hb⟩ := bits_ok e
  have hll := holes_len e2
  have hsz := hole_sizes e2
  refine ⟨⟨by omega, by omega⟩, ?_⟩
  refine forIn0 (fun k (s : List Int × List (List Hole)) => s.1 = noneTo t l near k ∧ s.2 = byTo t l near k) ⟨rfl, byTo_zero t l near⟩ (fun k x s hx hI next hn => ?_) (fun s hI => ?_)
  · obtain ⟨s1, s2⟩ := s
    obtain ⟨h1, h2⟩ := hI
    simp only at h1 h2
    subst h1; subst h2
    have hk := lt_of_get hx
    unfold M_drill_Chosen_L1
    refine S_drill_toolFor hb (hsz x (List.mem_of_getElem? hx)) ?_
    have hno := noneTo_len t l near k
    have hr := toolN_range t near x
    refine cnd_of (fun e4 => ?_) (fun e4 => ?_)
    · have e4 : toolN t near x < 0 := of_decide_eq_true e4
      refine ⟨room_of (by simp only [List.length_append, List.length_singleton]; omega) (by omega), hn _ ⟨?_, (byTo_none hx e4).symm⟩⟩
      rw [noneTo, getD_of hx, if_pos e4]
    · have e4 : ¬ toolN t near x < 0 := of_decide_eq_false e4
      have hba := byAt_len t l near k (toolN t near x).toNat
      refine idx_of (x := byAt t l near k (toolN t near x).toNat) (by have := hr.1; show 0 ≤ toolN t near x; omega) (byTo_get (by show (toolN t near x).toNat < t.length; omega)) ⟨room_of (by simp only [List.length_append, List.length_singleton]; omega) (by omega), hn _ ⟨?_, byTo_some hx e4⟩⟩
      rw [noneTo, getD_of hx, if_neg e4, List.append_nil]
  · obtain ⟨s1, s2⟩ := s
    obtain ⟨h1, h2⟩ := hI
    simp only at h1 h2
    subst h1; subst h2
    refine forIn0 (fun b acc => acc = jobsUp t l near b) rfl (fun b x acc hx hI next hn => ?_) (fun acc hI => by subst hI; rw [byTo_len]; exact h)
    have hX := hn _ rfl
    have hb := lt_of_get hx
    rw [byTo_len] at hb
    rw [byTo_get hb] at hx
    injection hx with hx
    subst hx
    rw [jobsUp, ← hI] at hX
    have hjl := jobsUp_len t l near b
    rw [← hI] at hjl
    unfold M_drill_Chosen_L2
    refine cnd_of (fun e5 => ?_) (fun e5 => ?_)
    · rw [if_pos (by simpa using e5)] at hX
      refine idx_getD (by omega) (by omega) ⟨room_of (by simp only [List.length_append, List.length_singleton]; omega) (by omega), ?_⟩
      rw [Int.toNat_natCast]; exact hX
    · rw [if_neg (by simpa using e5), List.append_nil] at hX; exact hX
theorem S_ref8_Chosen {t : List Bit} {l : List Hole} {near : Int} (ht : Fits.fits t) {Q : List Job → List Int → Int → Prop} (h : if chosenFault t l near = 0 then Q (jobsUp t l near t.length) (noneTo t l near l.length) 0 else Q [] [] (chosenFault t l near)) : M_ref8_Chosen t l near Q := by
  unfold M_ref8_Chosen
  refine S_ref8_CheckTools ht (cnd_of (fun e => ?_) (fun e => ?_))
  · have e : toolsFault t ≠ 0 := by simpa using e
    rw [show chosenFault t l near = toolsFault t by unfold chosenFault; rw [if_pos e], if_neg e] at h; exact h
  have e : toolsFault t = 0 := by simpa using e
  refine S_ref8_CheckHoles (cnd_of (fun e2 => ?_) (fun e2 => ?_))
  · have e2 : holesFault l ≠ 0 := by simpa using e2
    rw [show chosenFault t l near = holesFault l by unfold chosenFault; rw [if_neg (fun hh => hh e), if_pos e2], if_neg e2] at h; exact h
  have e2 : holesFault l = 0 := by simpa using e2
  refine cnd_of (fun e3 => ?_) (fun e3 => ?_)
  · rw [show chosenFault t l near = 1 by unfold chosenFault; rw [if_neg (fun hh => hh e), if_neg (fun hh => hh e2), if_pos (by simpa using e3)], if_neg (by decide)] at h; exact h
  rw [show chosenFault t l near = 0 by unfold chosenFault; rw [if_neg (fun hh => hh e), if_neg (fun hh => hh e2), if_neg (by simpa using e3)], if_pos rfl] at h
  obtain ⟨htl, hb⟩ := bits_ok e
  have hll := holes_len e2
  have hsz := hole_sizes e2
  refine ⟨⟨by omega, by omega⟩, ?_⟩
  refine forIn0 (fun k (s : List Int × List (List Hole)) => s.1 = noneTo t l near k ∧ s.2 = byTo t l near k) ⟨rfl, byTo_zero t l near⟩ (fun k x s hx hI next hn => ?_) (fun s hI => ?_)
  · obtain ⟨s1, s2⟩ := s
    obtain ⟨h1, h2⟩ := hI
    simp only at h1 h2
    subst h1; subst h2
    have hk := lt_of_get hx
    unfold M_ref8_Chosen_L1
    refine S_ref8_toolFor hb (hsz x (List.mem_of_getElem? hx)) ?_
    have hno := noneTo_len t l near k
    have hr := toolN_range t near x
    refine cnd_of (fun e4 => ?_) (fun e4 => ?_)
    · have e4 : toolN t near x < 0 := of_decide_eq_true e4
      refine ⟨room_of (by simp only [List.length_append, List.length_singleton]; omega) (by omega), hn _ ⟨?_, (byTo_none hx e4).symm⟩⟩
      rw [noneTo, getD_of hx, if_pos e4]
    · have e4 : ¬ toolN t near x < 0 := of_decide_eq_false e4
      have hba := byAt_len t l near k (toolN t near x).toNat
      refine idx_of (x := byAt t l near k (toolN t near x).toNat) (by have := hr.1; show 0 ≤ toolN t near x; omega) (byTo_get (by show (toolN t near x).toNat < t.length; omega)) ⟨room_of (by simp only [List.length_append, List.length_singleton]; omega) (by omega), hn _ ⟨?_, byTo_some hx e4⟩⟩
      rw [noneTo, getD_of hx, if_neg e4, List.append_nil]
  · obtain ⟨s1, s2⟩ := s
    obtain ⟨h1, h2⟩ := hI
    simp only at h1 h2
    subst h1; subst h2
    refine forIn0 (fun b acc => acc = jobsUp t l near b) rfl (fun b x acc hx hI next hn => ?_) (fun acc hI => by subst hI; exact h)
    have hX := hn _ rfl
    have hb := lt_of_get hx
    rw [jobsUp, ← hI, getD_of hx] at hX
    have hjl := jobsUp_len t l near b
    rw [← hI] at hjl
    unfold M_ref8_Chosen_L2
    refine idx_nat (byTo_get hb) (cnd_of (fun e5 => ?_) (fun e5 => ?_))
    · rw [if_pos (by simpa using e5)] at hX
      exact ⟨room_of (by simp only [List.length_append, List.length_singleton]; omega) (by omega), hX⟩
    · rw [if_neg (by simpa using e5), List.append_nil] at hX; exact hX
theorem S_equal_hole {xs ys : List Hole} {Q : Bool → Prop} (h : Q (decide (xs = ys))) : M_equal_hole xs ys Q := by
  unfold M_equal_hole
  exact equal_loop (fun k x next hh => hh) h
theorem S_ref8_SameJobs_self {a : List Job} {Q : Bool → Prop} (h : Q true) : M_ref8_SameJobs a a Q := by
  unfold M_ref8_SameJobs
  refine cnd_of (fun e => by simp at e) (fun _ => ?_)
  refine forIn0 (fun _ _ => True) trivial (fun k x s hx _ next hn => ?_) (fun _ _ => h)
  unfold M_ref8_SameJobs_L1 M_ref8_SameJobs_k2
  refine idx_nat hx ?_
  have hN := hn () trivial
  refine cnd_of (fun e => by simp at e) (fun _ => S_equal_hole ?_)
  refine cnd_of (fun e => by simp at e) (fun _ => hN)
theorem law_Chosen_true (t : List Bit) (l : List Hole) (near : Int) (ht : Fits.fits t) : M_law_Chosen t l near (· = true) := by
  unfold M_law_Chosen
  have fin : ∀ (j : List Job) (n : List Int) (f : Int), cnd (f == f) (M_ref8_SameJobs j j fun y7 => cnd y7 (M_equal_int n n fun y8 => cnd y8 (M_awake fun y9 => y9 = true) (false = true)) (false = true)) (false = true) := fun j n f => by
    refine cnd_of (fun _ => S_ref8_SameJobs_self (cnd_of (fun _ => S_equal_int ?_) (fun e => by cases e))) (fun e => by simp at e)
    refine cnd_of (fun _ => S_awake rfl) (fun e => by simp at e)
  refine S_drill_Chosen ht ?_
  by_cases hc : chosenFault t l near = 0
  · rw [if_pos hc]
    refine S_ref8_Chosen ht ?_
    rw [if_pos hc]
    exact fin _ _ _
  · rw [if_neg hc]
    refine S_ref8_Chosen ht ?_
    rw [if_neg hc]
    exact fin _ _ _
end Go.Proofs.Ytmopdabkfklefaa

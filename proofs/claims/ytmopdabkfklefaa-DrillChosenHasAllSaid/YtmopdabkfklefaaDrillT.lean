/- Chapter 8: each hole is drilled just once, or told that there is no tool for it: plain. -/
import Derived.Test.YtmopdabkfklefaaDrillS
namespace Go.Proofs.Ytmopdabkfklefaa
open Go Go.RowKit
set_option linter.unusedVariables false

/-! ### the parts of a list by what each goes to -/
theorem parts_perm {α : Type} (f : α → Int) (l : List α) : ∀ n : Nat, ((List.range n).flatMap (fun (b : Nat) => l.filter (fun h => decide (f h = (b : Int)))) ++ l.filter (fun h => !(decide (0 ≤ f h ∧ f h < (n : Int))))).Perm l
  | 0 => by
    rw [List.range_zero, List.flatMap_nil, List.nil_append, List.filter_eq_self.2 (fun a _ => by simp; omega)]
  | n + 1 => by
    rw [List.range_succ, List.flatMap_append, List.flatMap_cons, List.flatMap_nil, List.append_nil, List.append_assoc]
    refine (List.Perm.append_left _ ?_).trans (parts_perm f l n)
    have h1 := List.filter_append_perm (fun h => decide (f h = (n : Int))) (l.filter (fun h => !(decide (0 ≤ f h ∧ f h < (n : Int)))))
    rw [List.filter_filter, List.filter_filter] at h1
    have e1 : l.filter (fun a => decide (f a = (n : Int)) && !(decide (0 ≤ f a ∧ f a < (n : Int)))) = l.filter (fun h => decide (f h = (n : Int))) := by
      refine List.filter_congr (fun a _ => ?_)
      rw [Bool.eq_iff_iff]; simp; omega
    have e2 : l.filter (fun a => !(decide (f a = (n : Int))) && !(decide (0 ≤ f a ∧ f a < (n : Int)))) = l.filter (fun h => !(decide (0 ≤ f h ∧ f h < ((n + 1 : Nat) : Int)))) := by
      refine List.filter_congr (fun a _ => ?_)
      rw [Bool.eq_iff_iff]; simp; omega
    rw [e1, e2] at h1
    exact h1
def noHoles (t : List Bit) (l : List Hole) (near : Int) (k : Nat) : List Hole := (l.take k).filter (fun h => decide (toolN t near h < 0))
theorem noHoles_succ {t : List Bit} {l : List Hole} {near : Int} {k : Nat} {x : Hole} (hx : l[k]? = some x) : noHoles t l near (k + 1) = noHoles t l near k ++ (if toolN t near x < 0 then [x] else []) := by
  unfold noHoles
  rw [List.take_add_one, hx, List.filter_append]
  congr 1
  simp only [Option.toList_some, List.filter_cons, List.filter_nil, decide_eq_true_eq]
theorem none_holes (t : List Bit) (l : List Hole) (near : Int) : ∀ k, k ≤ l.length → (noneTo t l near k).map (fun i => l.getD i.toNat default) = noHoles t l near k
  | 0, _ => by simp [noneTo, noHoles]
  | k + 1, h => by
    have ih := none_holes t l near k (by omega)
    have hx : l[k]? = some (l.getD k default) := by rw [List.getD_eq_getElem?_getD, List.getElem?_eq_getElem (by omega)]; rfl
    rw [noneTo, List.map_append, ih, noHoles_succ hx]
    congr 1
    split <;> simp
theorem noneTo_mem {t : List Bit} {l : List Hole} {near : Int} : ∀ {k : Nat} {i : Int}, i ∈ noneTo t l near k → 0 ≤ i ∧ i < k
  | 0, i, h => by simp [noneTo] at h
  | k + 1, i, h => by
    rw [noneTo, List.mem_append] at h
    rcases h with h | h
    · have := noneTo_mem h; omega
    · split at h
      · simp at h; omega
      · simp at h
theorem jobs_holes (t : List Bit) (l : List Hole) (near : Int) : ∀ n, (jobsUp t l near n).flatMap (·.Holes) = (List.range n).flatMap (byAt t l near l.length)
  | 0 => by simp [jobsUp]
  | n + 1 => by
    rw [jobsUp, List.range_succ, List.flatMap_append, List.flatMap_append, jobs_holes t l near n]
    congr 1
    split
    · simp
    · rename_i hc
      have : byAt t l near l.length n = [] := List.eq_nil_of_length_eq_zero (by omega)
      simp [this]
theorem all_perm (t : List Bit) (l : List Hole) (near : Int) : ((jobsUp t l near t.length).flatMap (·.Holes) ++ noHoles t l near l.length).Perm l := by
  rw [jobs_holes]
  have h := parts_perm (toolN t near) l t.length
  have e1 : (List.range t.length).flatMap (byAt t l near l.length) = (List.range t.length).flatMap (fun (b : Nat) => l.filter (fun h => decide (toolN t near h = (b : Int)))) := by
    unfold byAt; rw [List.take_length]
  have e2 : noHoles t l near l.length = l.filter (fun h => !(decide (0 ≤ toolN t near h ∧ toolN t near h < (t.length : Int)))) := by
    unfold noHoles; rw [List.take_length]
    refine List.filter_congr (fun a _ => ?_)
    have := toolN_range t near a
    rw [Bool.eq_iff_iff]; simp; omega
  rw [e1, e2]; exact h
theorem mem_jobs {t : List Bit} {l : List Hole} {near : Int} {x : Job} : ∀ {n : Nat}, x ∈ jobsUp t l near n → ∃ b, b < n ∧ x = ⟨(t.getD b default).Name, byAt t l near l.length b⟩
  | 0, h => by simp [jobsUp] at h
  | n + 1, h => by
    rw [jobsUp, List.mem_append] at h
    rcases h with h | h
    · obtain ⟨b, h1, h2⟩ := mem_jobs h; exact ⟨b, by omega, h2⟩
    · split at h
      · simp at h; exact ⟨n, by omega, h⟩
      · simp at h
theorem jobs_apart {t : List Bit} {l : List Hole} {near : Int} (hr : Rising t) : ∀ n, n ≤ t.length → (jobsUp t l near n).Pairwise (fun a b => (a.Tool == b.Tool) = false)
  | 0, _ => by simp [jobsUp]
  | n + 1, h => by
    rw [jobsUp, List.pairwise_append]
    refine ⟨jobs_apart hr n (by omega), by split <;> simp, fun a ha b hb => ?_⟩
    obtain ⟨c, h1, rfl⟩ := mem_jobs ha
    split at hb
    · simp only [List.mem_singleton] at hb; subst hb
      have hc : t[c]? = some (t.getD c default) := by rw [List.getD_eq_getElem?_getD, List.getElem?_eq_getElem (by omega)]; rfl
      have hn : t[n]? = some (t.getD n default) := by rw [List.getD_eq_getElem?_getD, List.getElem?_eq_getElem (by omega)]; rfl
      have := rising_mono hr hc hn h1
      cases he : ((t.getD c default).Name == (t.getD n default).Name) with
      | false => rfl
      | true =>
        rw [eq_of_beq he, strLt_irrefl] at this; cases this
    · simp at hb
theorem holes_sub {l l' : List Hole} (h : holesFault l = 0) (hl : l'.length ≤ l.length) (hs : ∀ x ∈ l', x ∈ l) : holesFault l' = 0 := by
  unfold holesFault at *
  split at h; · cases h
  split at h; · cases h
  rename_i h1 h2
  rw [if_neg (by omega), if_neg]
  intro e
  obtain ⟨x, hx, hb⟩ := List.any_eq_true.1 e
  exact h2 (List.any_eq_true.2 ⟨x, hs x hx, hb⟩)
theorem byAt_mem {t : List Bit} {l : List Hole} {near : Int} {k b : Nat} {x : Hole} (h : x ∈ byAt t l near k b) : x ∈ l ∧ toolN t near x = (b : Int) := by
  unfold byAt at h
  rw [List.mem_filter] at h
  exact ⟨List.mem_of_mem_take h.1, of_decide_eq_true h.2⟩
theorem firstBad_nones {α : Type} {f : Nat → α → Int} : ∀ (t : List α) (k : Nat), (∀ j y, t[j]? = some y → f (k + j) y = 0) → firstBad f t k = 0
  | [], _, _ => rfl
  | x :: r, k, h => by
    show (if f k x ≠ 0 then f k x else firstBad f r (k + 1)) = 0
    rw [if_neg (by have := h 0 x rfl; simpa using this)]
    exact firstBad_nones r (k + 1) (fun j y hy => by have := h (j + 1) y (by simpa using hy); rwa [show k + (j + 1) = k + 1 + j by omega] at this)
theorem jobs_right {t : List Bit} {l : List Hole} {near : Int} (h1 : toolsFault t = 0) (h2 : holesFault l = 0) : jobsFault t (jobsUp t l near t.length) = 0 := by
  obtain ⟨hl, hr, _⟩ := tools_ok h1
  have hjl := jobsUp_len t l near t.length
  have hpl := (all_perm t l near).length_eq
  rw [List.length_append] at hpl
  have hhl := holes_len h2
  unfold jobsFault
  rw [if_neg (fun hh => hh h1), if_neg (by omega)]
  have hb : firstBad (jobBad t (jobsUp t l near t.length)) (jobsUp t l near t.length) 0 = 0 := by
    refine firstBad_nones _ _ (fun i x hx => ?_)
    rw [Nat.zero_add]
    obtain ⟨b, hbl, hxe⟩ := mem_jobs (List.mem_of_getElem? hx)
    have htb : t[b]? = some (t.getD b default) := by rw [List.getD_eq_getElem?_getD, List.getElem?_eq_getElem hbl]; rfl
    unfold jobBad
    rw [if_neg (by rw [hxe, findTool_some hr htb rfl]; simp), if_neg]
    · rw [hxe]
      exact holes_sub h2 (byAt_len t l near l.length b) (fun y hy => (byAt_mem hy).1)
    · intro e
      obtain ⟨y, hy, hye⟩ := List.any_eq_true.1 e
      obtain ⟨j, hj1, hj2⟩ := List.getElem_of_mem hy
      rw [List.length_take] at hj1
      have hil := lt_of_get hx
      have := List.pairwise_iff_getElem.1 (jobs_apart (l := l) (near := near) hr t.length (Nat.le_refl _)) j i (by omega) hil (by omega)
      rw [List.getElem_take] at hj2
      rw [List.getElem?_eq_getElem hil] at hx
      injection hx with hx
      rw [hj2, hx, hye] at this
      cases this
  rw [hb, if_neg (by simp), if_neg]
  unfold holesTo
  rw [List.take_length]
  omega
/-! ### the law -/
theorem S_ref8_All {j : List Job} {n : Nat} (hn : (j.flatMap (·.Holes)).length ≤ n) (hb : n ≤ 1000000) {Q : List Hole → Prop} (h : Q (j.flatMap (·.Holes))) : M_ref8_All j Q := by
  unfold M_ref8_All
  refine forIn0 (fun k acc => acc = holesTo j k) rfl (fun k x acc hx hI next hnx => ?_) (fun acc hI => by subst hI; unfold holesTo; rw [List.take_length]; exact h)
  have hX := hnx _ rfl
  rw [holesTo_succ hx, ← hI] at hX
  unfold M_ref8_All_L1
  refine ⟨room_of ?_ (by omega), hX⟩
  have hp : (acc ++ x.Holes).length ≤ (j.flatMap (·.Holes)).length := by
    rw [hI, ← holesTo_succ hx]
    unfold holesTo
    conv => rhs; rw [← List.take_append_drop (k + 1) j, List.flatMap_append, List.length_append]
    omega
  omega
theorem S_ref8_many {l : List Hole} {x : Hole} (hl : l.length ≤ 1000000) {Q : Int → Prop} (h : Q (l.count x : Int)) : M_ref8_many l x Q := by
  unfold M_ref8_many
  refine forIn0 (fun k n => n = ((l.take k).count x : Int)) (by simp) (fun k y n hy hI next hn => ?_) (fun n hI => by subst hI; rw [List.take_length]; exact h)
  have hX := hn _ rfl
  have hc : (l.take (k + 1)).count x = (l.take k).count x + (if y = x then 1 else 0) := by
    rw [List.take_add_one, hy, List.count_append]
    simp [List.count_cons]
  have hle : (l.take k).count x ≤ l.length := Nat.le_trans List.count_le_length (by rw [List.length_take]; omega)
  unfold M_ref8_many_L1
  refine cnd_of (fun e => ?_) (fun e => ?_)
  · rw [hc, if_pos (by simpa using e)] at hX
    rw [hI, w64_id (by omega) (by omega)]
    rw [show (((l.take k).count x : Int) + 1) = (((l.take k).count x + 1 : Nat) : Int) by omega]
    exact hX
  · rw [hc, if_neg (by simpa using e), Nat.add_zero, ← hI] at hX; exact hX
theorem S_ref8_SameHoles {a b : List Hole} (hp : a.Perm b) (hl : a.length ≤ 1000000) {Q : Bool → Prop} (h : Q true) : M_ref8_SameHoles a b Q := by
  unfold M_ref8_SameHoles
  have hle := hp.length_eq
  refine forIn0 (fun _ _ => True) trivial (fun k x s hx _ next hn => ?_) (fun _ _ => ?_)
  · unfold M_ref8_SameHoles_L1
    refine S_ref8_many hl (S_ref8_many (by omega) ?_)
    rw [hp.count_eq x]
    exact cnd_of (fun e => by simp at e) (fun _ => hn () trivial)
  · rw [show ((a.length : Int) == (b.length : Int)) = true by rw [hle]; simp]; exact h
theorem law_HasAll_true (t : List Bit) (l : List Hole) (near : Int) (ht : Fits.fits t) : M_law_HasAll t l near (· = true) := by
  unfold M_law_HasAll
  refine S_drill_Chosen ht ?_
  by_cases hc : chosenFault t l near = 0
  · rw [if_pos hc]
    unfold chosenFault at hc
    split at hc; · rename_i hh; exact absurd hc hh
    rename_i h1
    split at hc; · rename_i hh; exact absurd hc hh
    rename_i h2
    split at hc; · cases hc
    rename_i h3
    have h1 : toolsFault t = 0 := Decidable.not_not.1 h1
    have h2 : holesFault l = 0 := Decidable.not_not.1 h2
    have hnear : 0 ≤ near ∧ near ≤ 10000 := by unfold within at h3; simp at h3; omega
    obtain ⟨htl, hr, _⟩ := tools_ok h1
    obtain ⟨_, hbits⟩ := bits_ok h1
    have hll := holes_len h2
    have hsz := hole_sizes h2
    have hperm := all_perm t l near
    have hpl := hperm.length_eq
    rw [List.length_append] at hpl
    refine cnd_of (fun e => by simp at e) (fun _ => ?_)
    refine S_ref8_All (n := 2000) (by omega) (by omega) ?_
    refine forIn0 (fun k acc => acc = (jobsUp t l near t.length).flatMap (·.Holes) ++ ((noneTo t l near l.length).take k).map (fun i => l.getD i.toNat default)) (by simp) (fun k x acc hx hI next hn => ?_) (fun acc hI => ?_)
    · have hX := hn _ rfl
      obtain ⟨hx0, hx1⟩ := noneTo_mem (List.mem_of_getElem? hx)
      have hk := lt_of_get hx
      have hnl := noneTo_len t l near l.length
      unfold M_law_HasAll_L1 M_law_HasAll_k6
      rw [List.take_add_one, hx, List.map_append, ← List.append_assoc, ← hI] at hX
      refine cnd_of (fun e => by simp at e; omega) (fun _ => cnd_of (fun e => by simp at e; omega) (fun _ => ?_))
      refine idx_getD hx0 hx1 ⟨room_of ?_ (by omega), hX⟩
      rw [hI]
      simp only [List.length_append, List.length_singleton, List.length_map, List.length_take]
      omega
    · rw [List.take_length, none_holes _ _ _ _ (Nat.le_refl _)] at hI
      subst hI
      refine forIn0 (fun _ _ => True) trivial (fun a x s hx _ next hn => ?_) (fun _ _ => ?_)
      · obtain ⟨c, hcl, hxe⟩ := mem_jobs (List.mem_of_getElem? hx)
        have htc : t[c]? = some (t.getD c default) := by rw [List.getD_eq_getElem?_getD, List.getElem?_eq_getElem hcl]; rfl
        unfold M_law_HasAll_L2
        refine forIn0 (fun _ _ => True) trivial (fun b y s hy _ next2 hn2 => ?_) (fun _ _ => hn () trivial)
        unfold M_law_HasAll_L3
        refine forIn0 (fun _ _ => True) trivial (fun d z s hz _ next3 hn3 => ?_) (fun _ _ => hn2 () trivial)
        have hN := hn3 () trivial
        unfold M_law_HasAll_L4 M_law_HasAll_k5
        refine cnd_of (fun e => ?_) (fun _ => cnd_of (fun e => by cases e) (fun _ => hN))
        have hzm := List.mem_of_getElem? hz
        rw [hxe] at hzm e
        obtain ⟨hzl, hzt⟩ := byAt_mem hzm
        have hbc : b = c := rising_inj hr hy htc (eq_of_beq e)
        subst hbc
        have hyt : y = t.getD b default := by rw [getD_of hy]
        have hnr := toolTo_near t z.Size near t.length
        have hzt' : toolTo t z.Size near t.length = (b : Int) := hzt
        rw [hzt', Int.toNat_natCast, ← hyt] at hnr
        have hd := hnr (by omega)
        unfold distOf at hd
        have hys := hbits y (List.mem_of_getElem? hy)
        have hzs := hsz z hzl
        rw [w64_id (n := z.Size + near) (by omega) (by omega), w64_id (n := y.Size + near) (by omega) (by omega)]
        refine cnd_of (fun e5 => by simp at e5; omega) (fun _ => cnd_of (fun e6 => by simp at e6; omega) (fun _ => hN))
      · refine S_ref8_SameHoles hperm (by rw [List.length_append]; omega) ?_
        refine cnd_of (fun _ => S_drill_CheckJobs ht ?_) (fun e => by cases e)
        rw [jobs_right h1 h2]
        exact cnd_of (fun _ => S_awake rfl) (fun e => by simp at e)
  · rw [if_neg hc]
    refine cnd_of (fun _ => ?_) (fun e => by simp at e; exact absurd e hc)
    refine cnd_of (fun _ => cnd_of (fun _ => S_awake rfl) (fun e => by simp at e)) (fun e => by simp at e)
end Go.Proofs.Ytmopdabkfklefaa

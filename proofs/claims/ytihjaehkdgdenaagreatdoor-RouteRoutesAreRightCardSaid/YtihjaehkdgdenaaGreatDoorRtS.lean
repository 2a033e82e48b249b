/- Chapter texts of ours, as far as the claim needs them. -/
import Derived.Test.YtihjaehkdgdenaaGreatDoorRyG
import Derived.Test.YtihjaehkdgdenaaGreatDoorRtH
import Derived.Test.YtihjaehkdgdenaaGreatDoorRyB
import Derived.Test.YtihjaehkdgdenaaGreatDoorRyA
import Derived.Test.YtihjaehkdgdenaaGreatDoorRtG
import Derived.Test.YtihjaehkdgdenaaGreatDoorRtC
import Derived.Test.YtihjaehkdgdenaaGreatDoorRtR1
import Derived.Test.YtihjaehkdgdenaaGreatDoorWays
namespace Go.Proofs.YtihjaehkdgdenaaGreatDoor
open Go Go.RowKit
set_option linter.unusedVariables false
set_option linter.unusedSectionVars false
set_option linter.unusedSimpArgs false
def taskF (t : List Task) (name : Str) : Option Task := t.find? (fun y => y.Net == name)
def taskI (t : List Task) (name : Str) : Option Nat := t.findIdx? (fun y => y.Net == name)
def taskN (t : List Task) (name : Str) : Int := match taskI t name with | some i => (i : Int) | none => -1
theorem task_some {t : List Task} {name : Str} {y : Task} (h : taskF t name = some y) : ∃ i : Nat, taskN t name = (i : Int) ∧ t[i]? = some y ∧ y.Net = name := by
  have := findIdx_find (fun y : Task => y.Net == name) t
  unfold taskF at h
  unfold taskN taskI
  cases hf : t.findIdx? (fun y => y.Net == name) with
  | none => rw [hf] at this; simp only at this; rw [h] at this; cases this
  | some i =>
    rw [hf] at this
    obtain ⟨b, h1, h2, h3⟩ := this
    rw [h] at h2; injection h2 with h2; subst h2
    exact ⟨i, rfl, h1, by simpa using h3⟩
theorem task_none {t : List Task} {name : Str} (h : taskF t name = none) : taskN t name = -1 := by
  have := findIdx_find (fun y : Task => y.Net == name) t
  unfold taskF at h
  unfold taskN taskI
  cases hf : t.findIdx? (fun y => y.Net == name) with
  | none => rfl
  | some i =>
    rw [hf] at this
    obtain ⟨b, h1, h2, h3⟩ := this
    rw [h] at h2; cases h2
theorem S_taskAt {t : List Task} (hr : Rising Task.Net t) (hl : t.length ≤ 500000) {name : Str} {Q : Int → Prop} (h : Q (taskN t name)) : M_route_taskAt t name Q := by
  unfold M_route_taskAt M_search_task
  refine search_loop (key := Task.Net) hr hl (name := name) (Q := fun y1 y2 => cnd (!y2) (Q (-1)) (Q y1)) (fun X lo hi hX => hX) (fun i x hx hn => ?_) (fun hne i hi => ?_)
  · refine cnd_of (fun e => by cases e) (fun _ => ?_)
    have : taskF t name = some x := find_some (key := Task.Net) hr hx hn
    obtain ⟨j, h1, h2, _⟩ := task_some this
    have := rising_inj hr hx h2 rfl
    rw [h1] at h; rw [this]; exact h
  · refine cnd_of (fun _ => ?_) (fun e => by cases e)
    have : taskF t name = none := List.find?_eq_none.2 (fun x hx => by simpa using hne x hx)
    rw [task_none this] at h
    exact h
structure TOk (g : Grid) (t : List Task) : Prop where
  gok : GOk g
  len : t.length ≤ 100
  rise : Rising Task.Net t
  pins : ∀ y ∈ t, 0 < y.Pins.length ∧ y.Pins.length ≤ 50 ∧ y.Pins.Nodup ∧ ∀ x ∈ y.Pins, inG g x = true ∧ x ∉ g.Blocked
  apart : ∀ (i j : Nat) u v c, t[i]? = some u → t[j]? = some v → c ∈ u.Pins → c ∈ v.Pins → i = j
theorem tasks_ok {g : Grid} {t : List Task} (h : tasksF g t = 0) : TOk g t := by
  unfold tasksF at h
  split at h
  · rename_i h1; exact absurd h h1
  rename_i h1
  split at h
  · cases h
  rename_i h2
  have hb := firstBad_ok h
  have ap : ∀ (i j : Nat) u v c, i < j → t[i]? = some u → t[j]? = some v → c ∈ u.Pins → c ∈ v.Pins → False := fun i j u v c hij hi hj hcu hcv => by
    have h3 := (task_ok (hb j v hj)).2.2.1
    have : v.Pins.any (pinIn (t.take j)) = true := List.any_eq_true.2 ⟨c, hcv, by
      unfold pinIn
      refine List.any_eq_true.2 ⟨u, List.mem_of_getElem? (i := i) ?_, decide_eq_true hcu⟩
      rw [List.getElem?_take, if_pos hij]; exact hi⟩
    rw [this] at h3; cases h3
  refine ⟨gridF_zero (Decidable.not_not.1 h1), by omega, rising_of fun i x hx => (task_ok (hb i x hx)).2.2.2, fun y hy => ?_, fun i j u v c hi hj hcu hcv => ?_⟩
  · obtain ⟨i, hi⟩ := List.getElem?_of_mem hy
    obtain ⟨p1, p2, p3, p4⟩ := pinsF_zero (task_ok (hb i y hi)).2.1
    exact ⟨p1, by omega, p3, p4⟩
  · rcases Nat.lt_trichotomy i j with h3 | h3 | h3
    · exact (ap i j u v c h3 hi hj hcu hcv).elim
    · exact h3
    · exact (ap j i v u c h3 hj hi hcv hcu).elim
def rCells (t : List Task) (x : Routed) : List Cell := ((taskF t x.Net).map Task.Pins).getD [] ++ x.Ways.flatten
theorem rCells_some {t : List Task} {x : Routed} {y : Task} (h : taskF t x.Net = some y) : rCells t x = y.Pins ++ x.Ways.flatten := by unfold rCells; rw [h]; rfl
def foreign (t : List Task) (name : Str) (c : Cell) : Bool := t.any (fun u => !(u.Net == name) && decide (c ∈ u.Pins))
def takenB (t : List Task) (r : List Routed) (c : Cell) : Bool := r.any (fun z => decide (c ∈ rCells t z))
def clashB (t : List Task) (r : List Routed) (k : Nat) (x : Routed) : Bool := (rCells t x).any (fun c => takenB t (r.take k) c || foreign t x.Net c)
open Classical in
noncomputable def togB (pins : List Cell) (W : List (List Cell)) : Bool := decide (Tog pins W)
open Classical in
theorem togB_true {pins : List Cell} {W : List (List Cell)} : togB pins W = true ↔ Tog pins W := ⟨of_decide_eq_true, fun h => decide_eq_true h⟩
def waysF (g : Grid) (W : List (List Cell)) : Int := firstBad (fun _ w => wayF g w) W 0
noncomputable def routedBad (g : Grid) (t : List Task) (r : List Routed) (k : Nat) (x : Routed) : Int :=
  match taskF t x.Net with
  | none => 9
  | some y => if under Routed.Net r k x = true then 8 else if x.Ways.length > 50 then 2 else if waysF g x.Ways ≠ 0 then waysF g x.Ways else if clashB t r k x = true then 12 else if togB y.Pins x.Ways = true then 0 else 3
noncomputable def routedF (g : Grid) (t : List Task) (r : List Routed) : Int := if tasksF g t ≠ 0 then tasksF g t else if r.length > 100 then 2 else firstBad (routedBad g t r) r 0
theorem ways_ok {g : Grid} {W : List (List Cell)} (h : waysF g W = 0) : ∀ w ∈ W, wayF g w = 0 := fun w hw => by
  obtain ⟨i, hi⟩ := List.getElem?_of_mem hw
  exact firstBad_ok h i w hi
theorem flat_len {B : Nat} : ∀ {W : List (List Cell)}, (∀ w ∈ W, w.length ≤ B) → W.flatten.length ≤ B * W.length
  | [], _ => by simp
  | w :: r, h => by
    have h1 := h w (List.mem_cons_self ..)
    have h2 := flat_len (W := r) (fun v hv => h v (List.mem_cons_of_mem _ hv))
    rw [List.flatten_cons, List.length_append, List.length_cons, Nat.mul_succ]; omega
theorem S_concat {l : List (List Cell)} (hl : l.flatten.length ≤ 3000000) {Q : List Cell → Prop} (h : Q l.flatten) : M_concat_cell l Q := by
  unfold M_concat_cell
  have part : ∀ k, (l.take k).flatten.length ≤ l.flatten.length := fun k => by
    have e : l.flatten = (l.take k).flatten ++ (l.drop k).flatten := by rw [← List.flatten_append, List.take_append_drop]
    rw [e, List.length_append]; omega
  have step : ∀ {k x}, l[k]? = some x → (l.take (k + 1)).flatten = (l.take k).flatten ++ x := fun {k x} hx => by
    rw [List.take_add_one, hx, List.flatten_append]; simp
  refine forIn0 (fun k (n : Int) => n = ((l.take k).flatten.length : Int)) (by simp) (fun k x n hx hI next hn => ?_) (fun n hI => ?_)
  · have h1 := part k
    have h2 := part (k + 1)
    rw [step hx, List.length_append] at h2
    have hw : w64 (n + (x.length : Int)) = ((l.take (k + 1)).flatten.length : Int) := by
      rw [step hx, List.length_append, hI, w64_id (by omega) (by omega)]; omega
    unfold M_concat_cell_L1
    rw [hw]
    exact cnd_of (fun e => by have := of_decide_eq_true e; omega) (fun _ => hn _ rfl)
  · rw [List.take_length] at hI
    unfold M_grow_cell
    subst hI
    refine ⟨⟨by omega, by omega, by omega⟩, ?_⟩
    refine forIn0 (fun k (m : List Cell) => m = (l.take k).flatten) (by simp) (fun k x m hx hI next hn => ?_) (fun m hI => ?_)
    · have h2 := part (k + 1)
      unfold M_concat_cell_L2
      subst hI
      rw [← step hx]
      exact ⟨⟨by omega, by omega⟩, hn _ rfl⟩
    · rw [List.take_length] at hI
      show Q m
      rw [hI]; exact h
theorem wayF_len {g : Grid} {w : List Cell} (h : wayF g w = 0) : w.length ≤ 40000 ∧ w ≠ [] := ⟨(cells_of_way h).1, (cells_of_way h).2.1⟩
theorem ways_flat {g : Grid} {W : List (List Cell)} (hW : W.length ≤ 50) (h : ∀ w ∈ W, wayF g w = 0) : W.flatten.length ≤ 2000000 := by
  have := flat_len (B := 40000) (W := W) (fun w hw => (wayF_len (h w hw)).1)
  omega
def PinsIs (t : List Task) (m : List (Cell × Int)) : Prop := ∀ c, (∀ i, mget m c = some i → ∃ (n : Nat) (u : Task), i = (n : Int) ∧ t[n]? = some u ∧ c ∈ u.Pins) ∧ (mget m c = none → ∀ u ∈ t, c ∉ u.Pins)
theorem foreign_get {g : Grid} {t : List Task} (ok : TOk g t) {m : List (Cell × Int)} (hm : PinsIs t m) {name : Str} {y : Task} (hy : taskF t name = some y) (c : Cell) :
    foreign t name c = match mget m c with | some i => i != taskN t name | none => false := by
  obtain ⟨j, hj, hjt, hname⟩ := task_some hy
  obtain ⟨h1, h2⟩ := hm c
  cases e : mget m c with
  | none =>
    simp only
    unfold foreign
    rw [List.any_eq_false]
    intro u hu
    have := h2 e u hu
    simp [this]
  | some i =>
    obtain ⟨n, u, rfl, hn, hc⟩ := h1 i e
    simp only
    rw [hj]
    unfold foreign
    by_cases en : n = j
    · subst en
      have : ((n : Int) != (n : Int)) = false := by simp
      rw [this, List.any_eq_false]
      intro v hv
      obtain ⟨k, hk⟩ := List.getElem?_of_mem hv
      by_cases hcv : c ∈ v.Pins
      · have := ok.apart _ _ _ _ _ hk hn hcv hc
        subst this
        rw [hjt] at hk; injection hk with hk; subst hk
        simp [hname]
      · simp [hcv]
    · have e1 : ((n : Int) != (j : Int)) = true := by simp; omega
      rw [e1, List.any_eq_true]
      refine ⟨u, List.mem_of_getElem? hn, ?_⟩
      have : u.Net ≠ name := fun he => en (rising_inj ok.rise hn hjt (he.trans hname.symm))
      simp [this, hc]
theorem takenB_take {t : List Task} {r : List Routed} {k : Nat} {x : Routed} (hx : r[k]? = some x) (c : Cell) : takenB t (r.take (k + 1)) c = (takenB t (r.take k) c || decide (c ∈ rCells t x)) := by
  unfold takenB
  rw [List.take_add_one, hx, List.any_append]
  simp
theorem S_route_CheckRouted {g : Grid} {t : List Task} {r : List Routed} {Q : Int → Prop} (h : Q (routedF g t r)) : M_route_CheckRouted g t r Q := by
  unfold M_route_CheckRouted
  unfold routedF at h
  refine S_route_CheckTasks (cnd_of (fun e => ?_) (fun e => ?_))
  · rw [if_pos (by simpa using e)] at h; exact h
  have e0 : tasksF g t = 0 := by simpa using e
  have ok := tasks_ok e0
  rw [if_neg (by simp [e0])] at h
  refine cnd_of (fun e => ?_) (fun e => ?_)
  · rw [if_pos (by have := of_decide_eq_true e; omega)] at h; exact h
  have hl : r.length ≤ 100 := by have := of_decide_eq_false e; omega
  rw [if_neg (by omega)] at h
  refine S_blocked ok.gok ?_
  have htl := ok.len
  refine forIn0 (fun k (m : List (Cell × Int)) => PinsIs (t.take k) m) (fun c => ⟨fun i hi => (by cases hi), fun _ u hu => (by simp at hu)⟩) (fun k x m hx hI next hn => ?_) (fun m hI => ?_)
  · unfold M_route_CheckRouted_L1
    refine forIn0 (fun j (m : List (Cell × Int)) => ∀ c, (∀ i, mget m c = some i → ∃ (n : Nat) (u : Task), i = (n : Int) ∧ (t.take (k + 1))[n]? = some u ∧ c ∈ u.Pins) ∧ (mget m c = none → (∀ u ∈ t.take k, c ∉ u.Pins) ∧ c ∉ x.Pins.take j)) (fun c => ⟨fun i hi => ?_, fun hc => ⟨(hI c).2 hc, by simp⟩⟩) (fun j p m2 hp hJ nx hnn => ?_) (fun m2 hJ => ?_)
    · obtain ⟨n, u, h1, h2, h3⟩ := (hI c).1 i hi
      have hnk : n < k := by have := lt_of_get h2; simp at this; omega
      rw [List.getElem?_take, if_pos hnk] at h2
      exact ⟨n, u, h1, by rw [List.getElem?_take, if_pos (by omega)]; exact h2, h3⟩
    · unfold M_route_CheckRouted_L6
      refine hnn _ fun c => ?_
      rw [mget_put]
      by_cases e : p = c
      · subst e
        rw [if_pos rfl]
        exact ⟨fun i hi => by injection hi with hi; exact ⟨k, x, hi.symm, by rw [List.getElem?_take, if_pos (by omega)]; exact hx, List.mem_of_getElem? hp⟩, fun hc => by cases hc⟩
      · rw [if_neg e]
        refine ⟨(hJ c).1, fun hc => ⟨((hJ c).2 hc).1, fun hcp => ?_⟩⟩
        rw [List.take_add_one, hp] at hcp
        rcases List.mem_append.1 hcp with h1 | h1
        · exact ((hJ c).2 hc).2 h1
        · have : c = p := by simpa using h1
          exact e this.symm
    · rw [List.take_length] at hJ
      refine hn _ fun c => ⟨(hJ c).1, fun hc u hu => ?_⟩
      rw [List.take_add_one, hx] at hu
      rcases List.mem_append.1 hu with h1 | h1
      · exact ((hJ c).2 hc).1 u h1
      · have : u = x := by simpa using h1
        rw [this]; exact ((hJ c).2 hc).2
  rw [List.take_length] at hI
  refine forIn_checkI (Q := Q) (routedBad g t r) (fun k m => SeenIs m (takenB t (r.take k))) (fun c => rfl) (fun k x m4 next hx hS hb h1 h0 => ?_) ?_
  · unfold M_route_CheckRouted_L2
    unfold routedBad at h1 h0
    have hk := lt_of_get hx
    refine S_taskAt ok.rise (by omega) (cnd_of (fun e => ?_) (fun e => ?_))
    · cases hy : taskF t x.Net with
      | none => rw [hy] at h1; have h1' : (9 : Int) ≠ 0 → Q 9 := h1; exact h1' (by decide)
      | some y => obtain ⟨i, hi, _⟩ := task_some hy; rw [hi] at e; have := of_decide_eq_true e; omega
    cases hy : taskF t x.Net with
    | none => rw [task_none hy] at e; simp at e
    | some y =>
    rw [hy] at h1 h0
    simp only at h1 h0
    obtain ⟨i, hi, hit, hname⟩ := task_some hy
    have hyt := List.mem_of_getElem? hit
    refine under_step (key := Routed.Net) (by omega) (by omega) ?_
    unfold M_route_CheckRouted_k3
    refine cnd_of (fun e2 => ?_) (fun e2 => ?_)
    · rw [if_pos e2] at h1; exact h1 (by decide)
    rw [if_neg (by rw [e2]; decide)] at h1 h0
    refine cnd_of (fun e3 => ?_) (fun e3 => ?_)
    · rw [if_pos (by have := of_decide_eq_true e3; omega)] at h1; exact h1 (by decide)
    have hm : x.Ways.length ≤ 50 := by have := of_decide_eq_false e3; omega
    rw [if_neg (by omega)] at h1 h0
    refine forIn_check (Q := Q) (fun _ w => wayF g w) (fun j w nx hw h2 h3 => ?_) ?_
    · unfold M_route_CheckRouted_L3
      refine S_checkWay ok.gok (cnd_of (fun e4 => h2 (by simpa using e4)) (fun e4 => h3 (by simpa using e4)))
    show if waysF g x.Ways = 0 then _ else Q (waysF g x.Ways)
    split
    rotate_left
    · rename_i e4; rw [if_pos e4] at h1; exact h1 e4
    rename_i e4
    rw [if_neg (by simp [e4])] at h1 h0
    have hw := ways_ok e4
    have hflat := ways_flat hm hw
    obtain ⟨p1, p2, p3, p4⟩ := ok.pins y hyt
    rw [hi]
    refine idx_nat hit ⟨⟨by simp only [List.length_append, List.length_cons, List.length_nil]; omega, by simp only [List.length_append, List.length_cons, List.length_nil]; omega⟩, ?_⟩
    have hcat : ([y.Pins] ++ x.Ways).flatten = rCells t x := by rw [rCells_some hy, List.flatten_append]; simp
    have hcl : (rCells t x).length ≤ 2000050 := by rw [rCells_some hy, List.length_append]; omega
    refine S_concat (by rw [hcat]; omega) ?_
    rw [hcat]
    refine forIn_any (fun c => takenB t (r.take k) c || foreign t x.Net c) (A := Q 12) (fun j c nx hq => ?_) (rCells t x) 0 ?_
    · unfold M_route_CheckRouted_L4 M_route_CheckRouted_k7
      rw [hS c]
      rw [foreign_get ok hI hy c, hi] at hq
      refine cnd_of (fun e5 => cnd_of (fun _ => by rw [e5] at hq; exact hq) (fun e' => by cases e')) (fun e5 => ?_)
      rw [e5, Bool.false_or] at hq
      cases e6 : mget m c with
      | none =>
        rw [e6] at hq
        exact cnd_of (fun e' => by cases e') (fun _ => cnd_of (fun e' => by cases e') (fun _ => hq))
      | some i2 =>
        rw [e6] at hq
        exact cnd_of (fun _ => cnd_iff.2 hq) (fun e' => by cases e')
    · have ecl : (rCells t x).any (fun c => takenB t (r.take k) c || foreign t x.Net c) = clashB t r k x := rfl
      rw [ecl]
      split
      · rename_i e5; rw [if_pos e5] at h1; exact h1 (by decide)
      rename_i e5
      rw [if_neg e5] at h1 h0
      refine forIn0 (fun j (m : List (Cell × Bool)) => SeenIs m (fun c => takenB t (r.take k) c || decide (c ∈ (rCells t x).take j))) (hS.congr fun c => by simp) (fun j c m6 hc hJ nx hnn => ?_) (fun m6 hJ => ?_)
      · unfold M_route_CheckRouted_L5
        refine hnn _ ((hJ.put c).congr fun c' => ?_)
        rw [List.take_add_one, hc]
        simp only [Option.toList, List.mem_append, List.mem_singleton, Bool.or_assoc]
        congr 1
        rw [← Bool.decide_or]
      · rw [List.take_length] at hJ
        obtain ⟨p0, hp0⟩ : ∃ p0, y.Pins[0]? = some p0 := ⟨_, List.getElem?_eq_getElem p1⟩
        refine S_together hp0 p2 hm (fun w hw' => (wayF_len (hw w hw')).1) (fun w hw' => (wayF_len (hw w hw')).2) ?_
        show cnd (!(togB y.Pins x.Ways)) _ _
        refine cnd_of (fun e6 => ?_) (fun e6 => ?_)
        · have e7 : ¬ (togB y.Pins x.Ways = true) := by simpa using e6
          rw [if_neg e7] at h1; exact h1 (by decide)
        · have e7 : togB y.Pins x.Ways = true := by simpa using e6
          rw [if_pos e7] at h0
          exact h0 rfl _ (hJ.congr fun c => (takenB_take hx c).symm)
  · split
    · rename_i e'
      intro s' _
      rw [e'] at h; exact h
    · exact h
end Go.Proofs.YtihjaehkdgdenaaGreatDoor
namespace Go.Proofs.YtihjaehkdgdenaaGreatDoor
open Go Go.RowKit
set_option linter.unusedVariables false
set_option linter.unusedSectionVars false
set_option linter.unusedSimpArgs false
def g0 : Grid := ⟨3, 1, 1, []⟩
def c0 : Costs := ⟨2, 1, 0, 0⟩
theorem edges0 : ∀ s < 9, ∀ e ∈ (grC g0 c0).E true s, e.1 < 9 ∧ s / 3 ≤ e.1 / 3 + 1 ∧ e.2 = 2 := by decide +kernel
theorem edge_a : ((4 : Nat), (2 : Int)) ∈ (grC g0 c0).E true 7 := by decide +kernel
theorem edge_b : ((0 : Nat), (2 : Int)) ∈ (grC g0 c0).E true 4 := by decide +kernel
theorem walk0 {s : Nat} {c : Int} {n : Nat} (h : Wk ((grC g0 c0).E true) [6, 7, 8] s c n) : s < 9 ∧ 4 - 2 * ((s / 3 : Nat) : Int) ≤ c := by
  induction h with
  | start hs => simp at hs; rcases hs with rfl | rfl | rfl <;> decide
  | step w he ih =>
    obtain ⟨h1, h2, h3⟩ := edges0 _ ih.1 _ he
    simp only at h1 h2 h3
    exact ⟨h1, by omega⟩
theorem S_awake {Q : Bool → Prop} (h : Q true) : M_route_awake Q := by
  unfold M_route_awake
  have e0 : findF g0 c0 [⟨0, 0, 0⟩, ⟨2, 0, 0⟩] = 0 := by decide +kernel
  refine S_Least (g := g0) (c := c0) (fun e => absurd e0 e) (fun _ out d hout hd => ?_)
  have eb : numN g0 ⟨2, 0, 0⟩ = 2 := by decide
  have ea : numN g0 ⟨0, 0, 0⟩ = 0 := by decide
  rw [eb] at hout
  rw [ea] at hd
  simp only [Nat.mul_zero, Nat.reduceMul, Nat.reduceAdd] at hout hd
  have hkB : kB = 1048576 := rfl
  obtain ⟨d', h1, h2, h3⟩ := hout.min 0 (0 + 2 + 2) 2 ((Wk.start (by simp)).step edge_a |>.step edge_b)
  rw [hd] at h1; injection h1 with h1; subst h1
  obtain ⟨c, n, w, e, p, b⟩ := hout.way 0 d hd h2
  have := (walk0 w).2
  have e4 : d / kB = 4 := by rw [hkB] at *; omega
  unfold leastQ
  rw [if_neg (by omega)]
  show cnd ((0 : Int) == 0) _ _
  rw [e4]
  simpa using h
end Go.Proofs.YtihjaehkdgdenaaGreatDoor
namespace Go.Proofs.YtihjaehkdgdenaaGreatDoor
open Go Go.RowKit
set_option linter.unusedVariables false
set_option linter.unusedSectionVars false
set_option linter.unusedSimpArgs false
def hasN (g : Grid) (L : List Cell) (n : Nat) : Bool := L.any (fun c => decide (numN g c = n))
theorem hasN_append (g : Grid) (L M : List Cell) (n : Nat) : hasN g (L ++ M) n = (hasN g L n || hasN g M n) := by unfold hasN; rw [List.any_append]
def blockedL (g : Grid) (M : List Cell) : List Cell := ((List.range (grG g).N).filter (fun n => hasN g g.Blocked n || hasN g M n)).map (cellN g)
def blockedG (g : Grid) (M : List Cell) : Grid := ⟨g.W, g.H, g.Layers, blockedL g M⟩
def Mk (g : Grid) (A : List Cell) (l : List Bool) : Prop := l.length = (grG g).N ∧ ∀ n, n < (grG g).N → l[n]? = some (hasN g g.Blocked n || hasN g A n)
theorem Mk.set {g : Grid} (hs : Sz g) {A : List Cell} {l : List Bool} (h : Mk g A l) {c : Cell} (hc : inG g c = true) : Mk g (A ++ [c]) (l.set (numN g c) true) := by
  have hl := numN_lt hs hc
  refine ⟨by rw [List.length_set]; exact h.1, fun n hn => ?_⟩
  rw [set_get' (by rw [h.1]; exact hl), hasN_append]
  by_cases e : n = numN g c
  · subst e
    rw [if_pos rfl]
    have : hasN g [c] (numN g c) = true := by unfold hasN; simp
    rw [this, Bool.or_true, Bool.or_true]
  · rw [if_neg e, h.2 n hn]
    have : hasN g [c] n = false := by unfold hasN; simp; exact fun h => e h.symm
    rw [this, Bool.or_false]
def Srt (g : Grid) (l : List Cell) : Prop := l.Pairwise (fun a b => numN g a < numN g b) ∧ ∀ c ∈ l, inG g c = true
theorem hasN_mem {g : Grid} (hs : Sz g) {L : List Cell} (hL : ∀ c ∈ L, inG g c = true) {c : Cell} (hc : inG g c = true) : hasN g L (numN g c) = true ↔ c ∈ L := by
  unfold hasN
  rw [List.any_eq_true]
  exact ⟨fun ⟨d, hd, e⟩ => numN_inj hs (hL d hd) hc (of_decide_eq_true e) ▸ hd, fun h => ⟨c, h, decide_eq_true rfl⟩⟩
theorem blockedL_srt {g : Grid} (hg : GOk g) {M : List Cell} (hM : ∀ c ∈ M, inG g c = true) : Srt g (blockedL g M) ∧ ∀ c, c ∈ blockedL g M ↔ c ∈ g.Blocked ∨ c ∈ M := by
  have hs := hg.sz
  have hin : ∀ c ∈ blockedL g M, inG g c = true := fun c hc => by
    obtain ⟨n, hn, rfl⟩ := List.mem_map.1 hc
    exact cellN_in hs (List.mem_range.1 (List.mem_filter.1 hn).1)
  refine ⟨⟨?_, hin⟩, fun c => ⟨fun hc => ?_, fun hc => ?_⟩⟩
  · unfold blockedL
    rw [List.pairwise_map]
    have : (List.range (grG g).N).Pairwise (fun a b => numN g (cellN g a) < numN g (cellN g b)) := by
      have e : (fun a b => numN g (cellN g a) < numN g (cellN g b)) = (fun a b : Nat => a < b) := by funext a b; rw [numN_cellN, numN_cellN]
      rw [e]; exact List.pairwise_lt_range
    exact this.filter _
  · obtain ⟨n, hn, rfl⟩ := List.mem_map.1 hc
    have h1 := List.mem_filter.1 hn
    have hi := cellN_in hs (List.mem_range.1 h1.1)
    have h2 := h1.2
    rw [Bool.or_eq_true] at h2
    have e := numN_cellN g n
    rcases h2 with h2 | h2
    · left; rw [← e] at h2; exact (hasN_mem hs hg.blk hi).1 h2
    · right; rw [← e] at h2; exact (hasN_mem hs hM hi).1 h2
  · have hi : inG g c = true := hc.elim (hg.blk c) (hM c)
    refine List.mem_map.2 ⟨numN g c, List.mem_filter.2 ⟨List.mem_range.2 (numN_lt hs hi), ?_⟩, cellN_numN hs hi⟩
    rw [Bool.or_eq_true]
    rcases hc with hc | hc
    · exact .inl ((hasN_mem hs hg.blk hi).2 hc)
    · exact .inr ((hasN_mem hs hM hi).2 hc)
end Go.Proofs.YtihjaehkdgdenaaGreatDoor
namespace Go.Proofs.YtihjaehkdgdenaaGreatDoor
open Go Go.RowKit
set_option linter.unusedVariables false
set_option linter.unusedSectionVars false
set_option linter.unusedSimpArgs false
section
variable {g : Grid} {c : Costs}
theorem step_cost (hg : GOk g) (hc : COk c) {s t : Nat} {k : Int} (hs : s < 3 * (grG g).N) (h : (t, k) ∈ (grC g c).E false s) :
    axC (cellN g (s / 3)) (cellN g (t / 3)) ≠ 0 ∧ stepC c (cellN g (t / 3)).Layer ((s % 3 : Nat) : Int) (axC (cellN g (s / 3)) (cellN g (t / 3))) = (k, ((t % 3 : Nat) : Int)) := by
  obtain ⟨al, hnb, hm, h1, h2⟩ := Gr.E_on (G := grC g c) hs h
  have hax := Gr.Nb.ax hnb
  have ea : axC (cellN g (s / 3)) (cellN g (t / 3)) = al := axC_nb hnb
  rw [ea]
  refine ⟨by omega, ?_⟩
  by_cases h3 : al = 3
  · rw [if_pos h3] at h1 h2
    unfold stepC
    rw [if_pos h3, h1, h2]; rfl
  · rw [if_neg h3] at h1 h2
    have := stepC_gr (goodF_of hg hc) (n := t / 3) (last := ((s % 3 : Nat) : Int)) h3
    show stepC c ((grC g c).Z (t / 3) : Int) _ _ = _
    rw [show stepC c ((grC g c).Z (t / 3) : Int) ((s % 3 : Nat) : Int) al = _ from this, h1, h2]
    refine Prod.ext rfl ?_
    simp only; omega
def cellsS (g : Grid) (l : List Nat) : List Cell := l.map (fun s => cellN g (s / 3))
theorem steps_chain {G : Gr} {s e : Nat} {l : List Nat} {k : Int} (h : G.Steps s l k e) : ∀ (i x y : Nat), (s :: l)[i]? = some x → (s :: l)[i + 1]? = some y → ∃ k, (y, k) ∈ G.E false x := by
  induction h with
  | nil => intro i x y hx hy; simp at hy
  | @cons s t k l k2 e he hr ih =>
    intro i x y hx hy
    cases i with
    | zero => simp at hx hy; subst hx; subst hy; exact ⟨k, he⟩
    | succ i => simp at hx hy; exact ih i x y (by simpa using hx) (by simpa using hy)
end
end Go.Proofs.YtihjaehkdgdenaaGreatDoor

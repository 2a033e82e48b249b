/- Chapter texts of ours, as far as the claim needs them. -/
import Derived.Test.YtihjaehkdgdenaaGreatDoorRyA
import Derived.Test.YtihjaehkdgdenaaGreatDoorRtW
import Derived.Test.YtihjaehkdgdenaaGreatDoorRtG
import Derived.Test.YtihjaehkdgdenaaGreatDoorRtH
import Derived.Test.YtihjaehkdgdenaaGreatDoorSearch
import Derived.Test.YtihjaehkdgdenaaGreatDoorRtR1
import Derived.Test.YtihjaehkdgdenaaGreatDoorRtI2
import Derived.Test.YtihjaehkdgdenaaGreatDoorStrs
import Derived.Test.YtihjaehkdgdenaaGreatDoorHeap
namespace Go.Proofs.YtihjaehkdgdenaaGreatDoor
open Go Go.RowKit
set_option linter.unusedVariables false
set_option linter.unusedSectionVars false
set_option linter.unusedSimpArgs false
theorem S_netlist_IsWord {s : Str} (hs : Fits.fits s) {Q : Bool → Prop} (h : Q (isWord s)) : M_netlist_IsWord s Q := by
  unfold M_netlist_IsWord
  refine word_loop hs (Q := Q) (fun X n hX => ?_) h
  unfold M_netlist_IsWord_L1 M_netlist_IsWord_k2
  refine cnd_mono hX (fun hi => ?_) (fun hq => ?_)
  · obtain ⟨h0, x, hx, hc⟩ := hi
    refine ⟨h0, x, hx, ?_⟩
    unfold badByte at hc
    cases h1 : decide ((x.toNat : Int) < 65) <;> cases h2 : decide ((x.toNat : Int) > 90) <;> cases h3 : decide ((x.toNat : Int) < 97) <;> cases h4 : decide ((x.toNat : Int) > 122) <;> cases h5 : decide ((x.toNat : Int) < 48) <;> cases h6 : decide ((x.toNat : Int) > 57) <;>
      simp only [h1, h2, h3, h4, h5, h6, Bool.or_true, Bool.true_or, Bool.or_false, Bool.false_and, Bool.true_and, Bool.and_true, Bool.and_false, cnd_true, cnd_false] at hc ⊢ <;> exact hc
  · refine cnd_of (fun e => ?_) (fun e => ?_)
    · have e1 : 1 ≤ s.length := by simp at e; omega
      have : decide ((s.length : Int) ≤ 40) = decide (s.length ≤ 40) := by congr 1; exact propext ⟨fun h => by omega, fun h => by omega⟩
      rw [this]; simpa [e1] using hq
    · have e1 : ¬ 1 ≤ s.length := by simp at e; omega
      simpa [e1] using hq
def isPath (s : Str) : Bool := decide (s.length ≤ 200) && (Lib.split s [47]).all isWord
theorem split_fits {s x : Str} (hs : s.length ≤ 9223372036854775807) (hx : x ∈ Lib.split s [47]) : Fits.fits x := by
  have := splitK_le [47] _ s x hx
  show x.length ≤ 9223372036854775807
  omega
theorem S_strings_Split {s : Str} (hs : s.length < 4294967281) {Q : List Str → Prop} (h : Q (Lib.split s [47])) : M_strings_Split s [47] Q := ⟨⟨hs, ⟨47, rfl⟩, rfl, rfl⟩, h⟩
theorem S_netlist_IsPath {s : Str} {Q : Bool → Prop} (h : Q (isPath s)) : M_netlist_IsPath s Q := by
  unfold M_netlist_IsPath
  refine cnd_of (fun e => ?_) (fun e => ?_)
  · have hl : s.length ≤ 200 := by simp at e; omega
    refine S_strings_Split (by omega) ?_
    have hp : isPath s = !((Lib.split s [47]).any (fun x => !(isWord x))) := by
      unfold isPath
      rw [decide_eq_true hl, Bool.true_and, List.all_eq_not_any_not]
    have key : ∀ (Qi : Int → Prop) (xs : List Str) (k : Nat), (∀ x ∈ xs, Fits.fits x) → (if xs.any (fun x => !(isWord x)) = true then ∀ i : Nat, Qi i else Qi (-1)) → forIn' (fun k x (s : Unit) next => M_indexfunc_str_L1 Qi k x (next ())) (fun (_ : Unit) => Qi (-1)) xs k () := by
      intro Qi xs
      induction xs with
      | nil => intro k _ h; exact h
      | cons x r ih =>
        intro k hf h
        show M_indexfunc_str_L1 Qi k x _
        unfold M_indexfunc_str_L1 M_IsPath1
        refine S_netlist_IsWord (hf x (List.mem_cons_self ..)) (cnd_of (fun e => ?_) (fun e => ?_))
        · rw [if_pos (by simp only [List.any_cons, e, Bool.true_or])] at h
          exact h k
        · refine ih (k + 1) (fun y hy => hf y (List.mem_cons_of_mem _ hy)) ?_
          simp only [List.any_cons, e, Bool.false_or] at h
          exact h
    refine key _ _ 0 (fun x hx => split_fits (by omega) hx) ?_
    rw [hp] at h
    split
    · rename_i e
      rw [e] at h
      intro i
      have hk : decide ((i : Int) ≥ 0) = true := by simp
      show Q (!(decide ((i : Int) ≥ 0)))
      rw [hk]; exact h
    · rename_i e
      rw [Bool.eq_false_iff.2 e] at h
      exact h
  · have hl : decide (s.length ≤ 200) = false := by simp at e; simp; omega
    unfold isPath at h
    rw [hl] at h
    exact h
def pinIn (t : List Task) (p : Cell) : Bool := t.any (fun y => decide (p ∈ y.Pins))
def taskBad (g : Grid) (t : List Task) (k : Nat) (x : Task) : Int :=
  if isPath x.Net = false then 5 else if pinsF g x.Pins 50 ≠ 0 then pinsF g x.Pins 50 else if x.Pins.any (pinIn (t.take k)) = true then 7 else if under Task.Net t k x = true then 8 else 0
def tasksF (g : Grid) (t : List Task) : Int := if gridF g ≠ 0 then gridF g else if t.length > 100 then 2 else firstBad (taskBad g t) t 0
theorem task_ok {g : Grid} {t : List Task} {k : Nat} {x : Task} (h : taskBad g t k x = 0) : isPath x.Net = true ∧ pinsF g x.Pins 50 = 0 ∧ x.Pins.any (pinIn (t.take k)) = false ∧ under Task.Net t k x = false := by
  unfold taskBad at h
  split at h
  · cases h
  · rename_i h1
    split at h
    · rename_i h2; exact absurd h h2
    · rename_i h2
      split at h
      · cases h
      · rename_i h3
        split at h
        · cases h
        · rename_i h4
          exact ⟨by simpa using h1, Decidable.not_not.1 h2, by simpa using h3, by simpa using h4⟩
theorem pinIn_take {t : List Task} {k : Nat} {x : Task} (hx : t[k]? = some x) (p : Cell) : pinIn (t.take (k + 1)) p = (pinIn (t.take k) p || decide (p ∈ x.Pins)) := by
  unfold pinIn
  rw [List.take_add_one, hx, List.any_append]
  simp
def SeenIs (m : List (Cell × Bool)) (f : Cell → Bool) : Prop := ∀ c, (mget m c).getD false = f c
theorem SeenIs.put {m : List (Cell × Bool)} {f : Cell → Bool} (h : SeenIs m f) (c : Cell) : SeenIs (mput m c true) (fun x => f x || decide (x = c)) := by
  intro x
  rw [mget_put]
  by_cases e : c = x
  · subst e; simp
  · rw [if_neg e, h x]; simp [Ne.symm e]
theorem SeenIs.congr {m : List (Cell × Bool)} {f f' : Cell → Bool} (h : SeenIs m f) (e : ∀ x, f x = f' x) : SeenIs m f' := fun c => (h c).trans (e c)
theorem S_containsSeen {s : List Cell} {m : List (Cell × Bool)} {f : Cell → Bool} (hm : SeenIs m f) {Q : Bool → List (Cell × Bool) → Prop} (h : Q (s.any f) m) : M_containsfunc_seen s m Q := by
  unfold M_containsfunc_seen M_indexfunc_seen
  have key : ∀ (l : List Cell) (k : Nat), (l.any f = true → Q true m) → (l.any f = false → Q false m) → forIn' (fun k x (s : List (Cell × Bool)) next => M_indexfunc_seen_L1 (fun y1 z1 => Q (decide (y1 ≥ 0)) z1) k x s (fun m2 => next m2)) (fun (s : List (Cell × Bool)) => (fun (m2 : List (Cell × Bool)) => Q (decide ((-1 : Int) ≥ 0)) m2) s) l k m := by
    intro l
    induction l with
    | nil => intro k _ h0; exact h0 rfl
    | cons x r ih =>
      intro k h1 h0
      show M_indexfunc_seen_L1 (fun y1 z1 => Q (decide (y1 ≥ 0)) z1) k x m _
      unfold M_indexfunc_seen_L1 M_tasks1
      rw [hm x]
      cases e : f x
      · refine cnd_of (fun e' => by cases e') (fun _ => ih (k + 1) (fun e' => h1 (by rw [List.any_cons, e, e']; rfl)) (fun e' => h0 (by rw [List.any_cons, e, e']; rfl)))
      · refine cnd_of (fun _ => ?_) (fun e' => by cases e')
        show Q (decide ((k : Int) ≥ 0)) m
        rw [decide_eq_true (Int.natCast_nonneg k)]
        exact h1 (by rw [List.any_cons, e]; rfl)
  refine key s 0 (fun e => ?_) (fun e => ?_)
  · rw [e] at h; exact h
  · rw [e] at h; exact h
theorem S_route_CheckTasks {g : Grid} {t : List Task} {Q : Int → Prop} (h : Q (tasksF g t)) : M_route_CheckTasks g t Q := by
  unfold M_route_CheckTasks
  unfold tasksF at h
  refine S_CheckGrid (cnd_of (fun e => ?_) (fun e => ?_))
  · rw [if_pos (by simpa using e)] at h; exact h
  have e0 : gridF g = 0 := by simpa using e
  have hg := gridF_zero e0
  rw [if_neg (by simp [e0])] at h
  refine cnd_of (fun e => ?_) (fun e => ?_)
  · rw [if_pos (by have := of_decide_eq_true e; omega)] at h; exact h
  have hl : t.length ≤ 100 := by have := of_decide_eq_false e; omega
  rw [if_neg (by omega)] at h
  refine S_blocked hg ?_
  refine forIn_checkI (Q := Q) (taskBad g t) (fun k m => SeenIs m (pinIn (t.take k))) (fun c => rfl) (fun k x m next hx hI hb h1 h0 => ?_) ?_
  · unfold M_route_CheckTasks_L1
    unfold taskBad at h1 h0
    refine S_netlist_IsPath (cnd_of (fun e => ?_) (fun e => ?_))
    · have e' : isPath x.Net = false := by simpa using e
      rw [if_pos e'] at h1; exact h1 (by decide)
    have e1 : ¬ isPath x.Net = false := by simpa using e
    rw [if_neg e1] at h1 h0
    refine S_route_checkPins hg (cnd_of (fun e => ?_) (fun e => ?_))
    · have e' : pinsF g x.Pins 50 ≠ 0 := by simpa using e
      rw [if_pos e'] at h1; exact h1 e'
    have e2 : ¬ pinsF g x.Pins 50 ≠ 0 := by simpa using e
    rw [if_neg e2] at h1 h0
    refine S_containsSeen hI (cnd_of (fun e => ?_) (fun e => ?_))
    · rw [if_pos e] at h1; exact h1 (by decide)
    rw [if_neg (by rw [e]; decide)] at h1 h0
    refine forIn0 (fun j (m : List (Cell × Bool)) => SeenIs m (fun c => pinIn (t.take k) c || decide (c ∈ x.Pins.take j))) (hI.congr fun c => by simp) (fun j y m' hy hJ nx hn => ?_) (fun m' hJ => ?_)
    · unfold M_route_CheckTasks_L2
      refine hn _ ((hJ.put y).congr fun c => ?_)
      rw [List.take_add_one, hy]
      simp only [Option.toList, List.mem_append, List.mem_singleton, Bool.or_assoc]
      congr 1
      rw [← Bool.decide_or]
    · rw [List.take_length] at hJ
      have hk := lt_of_get hx
      refine under_step (key := Task.Net) (by omega) (by omega) ?_
      unfold M_route_CheckTasks_k3
      refine cnd_of (fun e => ?_) (fun e => ?_)
      · rw [if_pos e] at h1; exact h1 (by decide)
      · rw [if_neg (by rw [e]; decide)] at h0
        exact h0 rfl _ (hJ.congr fun c => (pinIn_take hx c).symm)
  · split
    · rename_i e'
      intro s' _
      rw [e'] at h; exact h
    · exact h
end Go.Proofs.YtihjaehkdgdenaaGreatDoor
namespace Go.Proofs.YtihjaehkdgdenaaGreatDoor
open Go Go.RowKit
set_option linter.unusedVariables false
set_option linter.unusedSectionVars false
set_option linter.unusedSimpArgs false
structure UfOk (N : Nat) (up : List Int) : Prop where
  len : up.length = N
  le : ∀ i, i < N → ∃ p : Nat, up[i]? = some (p : Int) ∧ p ≤ i
inductive Rt (up : List Int) : Nat → Nat → Prop
  | self {r : Nat} (h : up[r]? = some (r : Int)) : Rt up r r
  | up {i p r : Nat} (h : up[i]? = some (p : Int)) (hne : p ≠ i) (hr : Rt up p r) : Rt up i r
theorem Rt.root {up : List Int} {i r : Nat} (h : Rt up i r) : up[r]? = some (r : Int) := by
  induction h with
  | self h => exact h
  | up _ _ _ ih => exact ih
theorem Rt.uniq {up : List Int} {i r s : Nat} (h : Rt up i r) : Rt up i s → r = s := by
  induction h with
  | self h =>
    intro hs
    cases hs with
    | self _ => rfl
    | up h2 hne _ => rw [h] at h2; injection h2 with h2; exact absurd (by omega) hne
  | up h hne _ ih =>
    intro hs
    cases hs with
    | self h2 => rw [h] at h2; injection h2 with h2; exact absurd (by omega) hne
    | up h2 _ hr =>
      rw [h] at h2; injection h2 with h2
      have e := Int.ofNat_inj.1 h2
      subst e; exact ih hr
theorem UfOk.rt {N : Nat} {up : List Int} (ok : UfOk N up) : ∀ i, i < N → ∃ r, Rt up i r ∧ r ≤ i := by
  intro i
  induction i using Nat.strongRecOn with
  | _ i ih =>
    intro hi
    obtain ⟨p, hp, hle⟩ := ok.le i hi
    by_cases e : p = i
    · subst e; exact ⟨p, .self hp, Nat.le_refl _⟩
    · obtain ⟨r, hr, hr2⟩ := ih p (by omega) (by omega)
      exact ⟨r, .up hp e hr, by omega⟩
theorem Rt.lt {N : Nat} {up : List Int} (ok : UfOk N up) {i r : Nat} (h : Rt up i r) : i < N ∧ r < N ∧ r ≤ i := by
  have low : ∀ {j p : Nat}, up[j]? = some (p : Int) → j < N ∧ p ≤ j := fun {j p} hj => by
    have hl : j < N := by rw [← ok.len]; exact (List.getElem?_eq_some_iff.1 hj).1
    obtain ⟨q, hq, hle⟩ := ok.le j hl
    rw [hj] at hq; injection hq with hq
    exact ⟨hl, by omega⟩
  induction h with
  | self h => have := low h; omega
  | up h _ _ ih => have := low h; omega
theorem set_get {up : List Int} {m : Nat} {v : Int} (hm : m < up.length) (j : Nat) : (up.set m v)[j]? = if j = m then some v else up[j]? := by
  rw [List.getElem?_set]
  by_cases e : m = j
  · subst e; rw [if_pos rfl, if_pos hm, if_pos rfl]
  · rw [if_neg e, if_neg (Ne.symm e)]
theorem halve {N : Nat} {up : List Int} (ok : UfOk N up) {m p q : Nat} (hm : up[m]? = some (p : Int)) (hne : p ≠ m) (hp : up[p]? = some (q : Int)) : UfOk N (up.set m (q : Int)) ∧ (∀ j s, Rt up j s ↔ Rt (up.set m (q : Int)) j s) ∧ q ≤ p ∧ p < m := by
  have hml : m < up.length := (List.getElem?_eq_some_iff.1 hm).1
  have hmN : m < N := by rw [← ok.len]; exact hml
  obtain ⟨p', h1, h2⟩ := ok.le m hmN
  rw [hm] at h1; injection h1 with h1
  have hpm : p < m := by omega
  obtain ⟨q', h3, h4⟩ := ok.le p (by omega)
  rw [hp] at h3; injection h3 with h3
  have hqp : q ≤ p := by omega
  have ok2 : UfOk N (up.set m (q : Int)) := ⟨by rw [List.length_set]; exact ok.len, fun i hi => by
    rw [set_get hml]
    by_cases e : i = m
    · subst e; exact ⟨q, if_pos rfl, by omega⟩
    · rw [if_neg e]; exact ok.le i hi⟩
  have fwd : ∀ j s, Rt up j s → Rt (up.set m (q : Int)) j s := by
    intro j
    induction j using Nat.strongRecOn with
    | _ j ih =>
      intro s hs
      have hj := Rt.lt ok hs
      by_cases e : j = m
      · subst e
        cases hs with
        | self h => rw [hm] at h; injection h with h; exact absurd (by omega) hne
        | up h hn hr =>
          rw [hm] at h; injection h with h
          have e := Int.ofNat_inj.1 h
          subst e
          have hset : (up.set j (q : Int))[j]? = some (q : Int) := by rw [set_get hml, if_pos rfl]
          cases hr with
          | self h' =>
            rw [hp] at h'; injection h' with h'
            have e2 := Int.ofNat_inj.1 h'
            subst e2
            exact .up hset (by omega) (ih q (by omega) q (.self hp))
          | up h' hn' hr' =>
            rw [hp] at h'; injection h' with h'
            have e2 := Int.ofNat_inj.1 h'
            subst e2
            exact .up hset (by omega) (ih q (by omega) s hr')
      · have hset : (up.set m (q : Int))[j]? = up[j]? := by rw [set_get hml, if_neg e]
        cases hs with
        | self h => exact .self (hset.trans h)
        | up h hn hr =>
          obtain ⟨p2, h5, h6⟩ := ok.le j hj.1
          rw [h] at h5; injection h5 with h5
          exact .up (hset.trans h) hn (ih _ (by omega) s hr)
  refine ⟨ok2, fun j s => ⟨fwd j s, fun h => ?_⟩, hqp, hpm⟩
  obtain ⟨s0, h0, _⟩ := ok.rt j (Rt.lt ok2 h).1
  rw [h.uniq (fwd j s0 h0)]; exact h0
theorem join {N : Nat} {up : List Int} (ok : UfOk N up) {a b : Nat} (ha : up[a]? = some (a : Int)) (hb : up[b]? = some (b : Int)) (hab : b ≤ a) : UfOk N (up.set a (b : Int)) ∧ (∀ j s, Rt up j s → Rt (up.set a (b : Int)) j (if s = a then b else s)) := by
  have hal : a < up.length := (List.getElem?_eq_some_iff.1 ha).1
  refine ⟨⟨by rw [List.length_set]; exact ok.len, fun i hi => ?_⟩, ?_⟩
  · rw [set_get hal]
    by_cases e : i = a
    · subst e; exact ⟨b, if_pos rfl, hab⟩
    · rw [if_neg e]; exact ok.le i hi
  · intro j s h
    have hset : ∀ j, j ≠ a → (up.set a (b : Int))[j]? = up[j]? := fun j hj => by rw [set_get hal, if_neg hj]
    have hseta : (up.set a (b : Int))[a]? = some (b : Int) := by rw [set_get hal, if_pos rfl]
    induction h with
    | @self r h =>
      by_cases e : r = a
      · subst e
        rw [if_pos rfl]
        by_cases e2 : b = r
        · subst e2; exact .self hseta
        · exact .up hseta e2 (.self ((hset b e2).trans hb))
      · rw [if_neg e]; exact .self ((hset r e).trans h)
    | @up i p r h hne hr ih =>
      by_cases e : i = a
      · subst e; rw [ha] at h; injection h with h; exact absurd (Int.ofNat_inj.1 h).symm hne
      · exact .up ((hset i e).trans h) hne ih
def Same (up : List Int) (i j : Nat) : Prop := ∃ r, Rt up i r ∧ Rt up j r
theorem same_refl {N : Nat} {up : List Int} (ok : UfOk N up) {i : Nat} (hi : i < N) : Same up i i := by
  obtain ⟨r, hr, _⟩ := ok.rt i hi; exact ⟨r, hr, hr⟩
theorem Same.symm {up : List Int} {i j : Nat} (h : Same up i j) : Same up j i := by obtain ⟨r, h1, h2⟩ := h; exact ⟨r, h2, h1⟩
theorem Same.trans {up : List Int} {i j k : Nat} (h : Same up i j) (h' : Same up j k) : Same up i k := by
  obtain ⟨r, h1, h2⟩ := h
  obtain ⟨s, h3, h4⟩ := h'
  have := h2.uniq h3; subst this
  exact ⟨r, h1, h4⟩
def idsOf (N : Nat) : List Int := (List.range N).map (fun i : Nat => (i : Int))
theorem init_uf (N : Nat) : UfOk N (idsOf N) ∧ ∀ i j, Same (idsOf N) i j → i = j := by
  have get : ∀ i, i < N → (idsOf N)[i]? = some (i : Int) := fun i hi => by
    unfold idsOf; rw [List.getElem?_map, List.getElem?_range hi]; rfl
  have ok : UfOk N (idsOf N) := ⟨by unfold idsOf; simp, fun i hi => ⟨i, get i hi, Nat.le_refl _⟩⟩
  have rt : ∀ {i r : Nat}, Rt (idsOf N) i r → r = i := fun {i r} h => by
    have hl := Rt.lt ok h
    exact h.uniq (.self (get i hl.1))
  exact ⟨ok, fun i j ⟨r, h1, h2⟩ => (rt h1).symm.trans (rt h2)⟩
theorem root0 {N : Nat} {up : List Int} (ok : UfOk N up) (hN : 0 < N) : Rt up 0 0 := by
  obtain ⟨r, hr, hle⟩ := ok.rt 0 hN
  have : r = 0 := by omega
  subst this; exact hr
end Go.Proofs.YtihjaehkdgdenaaGreatDoor

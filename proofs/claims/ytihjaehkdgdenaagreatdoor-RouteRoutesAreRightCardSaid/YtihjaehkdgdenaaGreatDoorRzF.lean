/- Chapter texts of ours, as far as the claim needs them. -/
import Derived.Test.YtihjaehkdgdenaaGreatDoorRzE
namespace Go.Proofs.YtihjaehkdgdenaaGreatDoor
open Go Go.RowKit
set_option linter.unusedVariables false
set_option linter.unusedSectionVars false
set_option linter.unusedSimpArgs false
def resL (t : List Task) (best : List (List (List Cell))) (lost : List Nat) : List Routed :=
  ((List.range t.length).filter (fun i => decide (i ∉ lost))).map (fun i => ⟨(t.getD i ⟨[], []⟩).Net, best.getD i []⟩)
theorem S_contains_int {F : List Nat} {k : Nat} {Q : Bool → Prop} (h : Q (decide (k ∈ F))) : M_contains_int (ints F) (k : Int) Q := by
  unfold M_contains_int M_index_int
  refine forIn_find (fun x : Int => (k : Int) == x) (A := fun i => Q (decide ((i : Int) ≥ 0))) (fun j x next hq => ?_) (ints F) 0 ?_
  · unfold M_index_int_L1
    refine cnd_of (fun e => ?_) (fun e => ?_)
    · rw [if_pos e] at hq; exact hq
    · rw [if_neg (by rw [e]; decide)] at hq; exact hq
  · cases hf : (ints F).findIdx? (fun x : Int => (k : Int) == x) with
    | none =>
      have : k ∉ F := fun hm => by
        have := List.findIdx?_eq_none_iff.1 hf (k : Int) (List.mem_map.2 ⟨k, hm, rfl⟩)
        simp at this
      rw [decide_eq_false this] at h
      exact h
    | some i =>
      obtain ⟨h1, h2, _⟩ := List.findIdx?_eq_some_iff_getElem.1 hf
      have : k ∈ F := by
        have e : (ints F)[i] = (k : Int) := by have : (k : Int) = (ints F)[i] := by simpa using h2
                                               exact this.symm
        have hm : (ints F)[i] ∈ ints F := List.getElem_mem h1
        rw [e] at hm
        obtain ⟨m, hm1, hm2⟩ := List.mem_map.1 hm
        have : m = k := Int.ofNat_inj.1 hm2
        exact this ▸ hm1
      rw [decide_eq_true this] at h
      show Q (decide (((0 + i : Nat) : Int) ≥ 0))
      rw [decide_eq_true (Int.natCast_nonneg _)]; exact h
theorem S_index_int {row : List Nat} {f : Nat} (hf : f ∈ row) {Q : Int → Prop} (h : ∀ k : Nat, row[k]? = some f → (∀ j, j < k → row[j]? ≠ some f) → Q (k : Int)) : M_index_int (ints row) (f : Int) Q := by
  unfold M_index_int
  refine forIn_find (fun x : Int => (f : Int) == x) (A := fun i => Q (i : Int)) (fun j x next hq => ?_) (ints row) 0 ?_
  · unfold M_index_int_L1
    refine cnd_of (fun e => ?_) (fun e => ?_)
    · rw [if_pos e] at hq; exact hq
    · rw [if_neg (by rw [e]; decide)] at hq; exact hq
  · cases hk : (ints row).findIdx? (fun x : Int => (f : Int) == x) with
    | none =>
      have := List.findIdx?_eq_none_iff.1 hk (f : Int) (List.mem_map.2 ⟨f, hf, rfl⟩)
      simp at this
    | some i =>
      obtain ⟨h1, h2, h3⟩ := List.findIdx?_eq_some_iff_getElem.1 hk
      have hir : i < row.length := by rw [ints_len] at h1; exact h1
      have get : ∀ j (hj : j < row.length), (ints row)[j]'(by rw [ints_len]; exact hj) = (row[j] : Int) := fun j hj => by unfold ints; rw [List.getElem_map]
      have e : row[i] = f := by
        have e1 : (f : Int) = (ints row)[i] := by simpa using h2
        rw [get i hir] at e1; exact (Int.ofNat_inj.1 e1).symm
      show Q (((0 + i : Nat)) : Int)
      rw [Nat.zero_add]
      refine h i (by rw [List.getElem?_eq_getElem hir, e]) fun j hj hje => ?_
      have hjr := lt_of_get hje
      have := h3 j hj
      have e2 : row[j] = f := by rw [List.getElem?_eq_getElem hjr] at hje; injection hje
      rw [get j hjr, e2] at this
      simp at this
theorem resL_take {t : List Task} {best : List (List (List Cell))} {lost : List Nat} {k : Nat} {x : Task} (hx : t[k]? = some x) :
    ((List.range (k + 1)).filter (fun i => decide (i ∉ lost))).map (fun i => (⟨(t.getD i ⟨[], []⟩).Net, best.getD i []⟩ : Routed)) = ((List.range k).filter (fun i => decide (i ∉ lost))).map (fun i => (⟨(t.getD i ⟨[], []⟩).Net, best.getD i []⟩ : Routed)) ++ (if k ∈ lost then [] else [⟨x.Net, best.getD k []⟩]) := by
  rw [List.range_succ, List.filter_append, List.map_append]
  congr 1
  have e : t.getD k ⟨[], []⟩ = x := by rw [List.getD_eq_getElem?_getD, hx]; rfl
  by_cases h : k ∈ lost
  · rw [if_pos h, List.filter_cons_of_neg (by simpa using h)]; rfl
  · rw [if_neg h, List.filter_cons_of_pos (by simpa using h)]
    show [(⟨(t.getD k ⟨[], []⟩).Net, best.getD k []⟩ : Routed)] = _
    rw [e]
theorem S_result {t : List Task} (htl : t.length ≤ 100) {best : List (List (List Cell))} (hb : best.length = t.length) {lost : List Nat} {B : Nat → Task → List Routed → (List Routed → Prop) → Prop} {D : List Routed → Prop}
    (hB : ∀ (k : Nat) x l next, (M_contains_int (ints lost) (k : Int) fun y5 => cnd (!y5) (idx best (k : Int) fun x1 => must (room (l ++ [(⟨x.Net, x1⟩ : Routed)]).length 40) (next (l ++ [(⟨x.Net, x1⟩ : Routed)]))) (next l)) → B k x l next)
    (h : D (resL t best lost)) : forIn' B D t 0 ([] : List Routed) := by
  refine forIn0 (fun k (l : List Routed) => l = ((List.range k).filter (fun i => decide (i ∉ lost))).map (fun i => (⟨(t.getD i ⟨[], []⟩).Net, best.getD i []⟩ : Routed)) ∧ l.length ≤ k) ⟨rfl, Nat.le_refl _⟩ (fun k x l hx hI next hn => ?_) (fun l hI => ?_)
  · obtain ⟨h1, h2⟩ := hI
    have hk := lt_of_get hx
    refine hB k x l next (S_contains_int (cnd_of (fun e => ?_) (fun e => ?_)))
    · have hno : k ∉ lost := by simpa using e
      have hg := List.getElem?_eq_getElem (show k < best.length by omega)
      have hd : best.getD k [] = best[k]'(by omega) := by rw [List.getD_eq_getElem?_getD, hg]; rfl
      refine idx_nat hg ⟨⟨by rw [List.length_append, List.length_singleton]; omega, by rw [List.length_append, List.length_singleton]; omega⟩, hn _ ⟨?_, by rw [List.length_append, List.length_singleton]; omega⟩⟩
      rw [resL_take hx, if_neg hno, ← h1, hd]
    · have hin : k ∈ lost := by simpa using e
      refine hn _ ⟨?_, by omega⟩
      rw [resL_take hx, if_pos hin, List.append_nil, ← h1]
  · rw [hI.1]; exact h
def Pick (n : Int) (b : List (List (List Cell))) (l : List Nat) (out : List (List (List Cell))) (F : List Nat) : List (List (List Cell)) × List Nat := if n = 1 ∨ F.length < l.length then (out, F) else (b, l)
inductive LRun (g : Grid) (c : Costs) (t : List Task) (tries : Int) : Int → List Nat → List (List (List Cell)) → List Nat → List (List (List Cell)) → List Nat → Prop
  | stop {n : Int} {row : List Nat} {b : List (List (List Cell))} {l : List Nat} (hn : tries < n) : LRun g c t tries n row b l b l
  | last {n : Int} {row : List Nat} {b : List (List (List Cell))} {l : List Nat} {U : List Cell} {out : List (List (List Cell))} (hn : n ≤ tries) (hR : RPre g c t row U out []) : LRun g c t tries n row b l (Pick n b l out []).1 (Pick n b l out []).2
  | next {n : Int} {row : List Nat} {b : List (List (List Cell))} {l : List Nat} {U : List Cell} {out : List (List (List Cell))} {F : List Nat} {f : Nat} {b2 : List (List (List Cell))} {l2 : List Nat} (hn : n ≤ tries) (hR : RPre g c t row U out (f :: F))
      (h : LRun g c t tries (n + 1) (f :: row.erase f) (Pick n b l out (f :: F)).1 (Pick n b l out (f :: F)).2 b2 l2) : LRun g c t tries n row b l b2 l2
structure Full (t : List Task) (row : List Nat) : Prop where
  nodup : row.Nodup
  all : ∀ i, i ∈ row ↔ i < t.length
theorem Full.turn {t : List Task} {row : List Nat} (h : Full t row) {f : Nat} (hf : f ∈ row) : Full t (f :: row.erase f) :=
  ⟨List.nodup_cons.2 ⟨fun hm => (h.nodup.mem_erase_iff.1 hm).1 rfl, h.nodup.erase f⟩, fun i => by
    rw [List.mem_cons, h.nodup.mem_erase_iff, ← h.all]
    constructor
    · rintro (rfl | ⟨_, h1⟩)
      · exact hf
      · exact h1
    · intro h1
      by_cases e : i = f
      · exact .inl e
      · exact .inr ⟨e, h1⟩⟩
theorem erase_at : ∀ {row : List Nat} {k f : Nat}, row[k]? = some f → (∀ j, j < k → row[j]? ≠ some f) → row.erase f = row.take k ++ row.drop (k + 1)
  | [], k, f, h, _ => by simp at h
  | x :: r, 0, f, h, _ => by
    have : x = f := by simpa using h
    subst this; simp
  | x :: r, k + 1, f, h, hj => by
    have hne : x ≠ f := fun e => hj 0 (by omega) (by rw [e]; rfl)
    have := erase_at (row := r) (k := k) (f := f) (by simpa using h) (fun j hjk => by have := hj (j + 1) (by omega); simpa using this)
    rw [List.erase_cons_tail (by simpa using hne), this]; rfl
def Ran (g : Grid) (c : Costs) (t : List Task) (b : List (List (List Cell))) (l : List Nat) : Prop := ∃ row U, Full t row ∧ RPre g c t row U b l
theorem pick_ran {g : Grid} {c : Costs} {t : List Task} {n : Int} {b : List (List (List Cell))} {l : List Nat} {out : List (List (List Cell))} {F : List Nat} (h1 : n = 1 ∨ Ran g c t b l) (h2 : Ran g c t out F) : Ran g c t (Pick n b l out F).1 (Pick n b l out F).2 := by
  unfold Pick
  split
  · exact h2
  · rename_i h; exact h1.resolve_left fun e => h (.inl e)
theorem pick_le {n : Int} (hn : n ≠ 1) {b : List (List (List Cell))} {l : List Nat} {out : List (List (List Cell))} {F : List Nat} : (Pick n b l out F).2.length ≤ l.length := by
  unfold Pick
  split
  · rename_i h; have := h.resolve_left hn; show F.length ≤ _; omega
  · exact Nat.le_refl _
theorem LRun.le {g : Grid} {c : Costs} {t : List Task} {tries : Int} {n : Int} {row : List Nat} {b : List (List (List Cell))} {l : List Nat} {b2 : List (List (List Cell))} {l2 : List Nat} (h : LRun g c t tries n row b l b2 l2) : 2 ≤ n → l2.length ≤ l.length := by
  induction h with
  | stop _ => intro _; exact Nat.le_refl _
  | last _ _ => intro hn; exact pick_le (by omega)
  | next _ _ _ ih => intro hn; exact Nat.le_trans (ih (by omega)) (pick_le (by omega))
theorem LRun.more {g : Grid} {c : Costs} {t : List Task} {tries more : Int} (ht : 1 ≤ tries) (hm : tries ≤ more) {n : Int} {row : List Nat} {b : List (List (List Cell))} {l : List Nat} {b2 : List (List (List Cell))} {l2 : List Nat} (h : LRun g c t tries n row b l b2 l2) :
    1 ≤ n → ∀ {b3 l3}, LRun g c t more n row b l b3 l3 → l3.length ≤ l2.length := by
  induction h with
  | stop hn => intro h1 b3 l3 h'; exact h'.le (by omega)
  | @last n row b l U out hn hR =>
    intro h1 b3 l3 h'
    cases h' with
    | stop hn2 => omega
    | last hn2 hR2 => obtain ⟨_, e, _⟩ := hR.det hR2 rfl; subst e; exact Nat.le_refl _
    | next hn2 hR2 h2 => obtain ⟨_, _, e⟩ := hR.det hR2 rfl; cases e
  | @next n row b l U out F f b2 l2 hn hR h ih =>
    intro h1 b3 l3 h'
    cases h' with
    | stop hn2 => omega
    | last hn2 hR2 => obtain ⟨_, _, e⟩ := hR.det hR2 rfl; cases e
    | next hn2 hR2 h2 =>
      obtain ⟨_, e1, e2⟩ := hR.det hR2 rfl
      injection e2 with e3 e4
      subst e1; subst e3; subst e4
      exact ih (by omega) h2
def routeF (g : Grid) (c : Costs) (t : List Task) (tries : Int) : Int := if bothF g c ≠ 0 then bothF g c else if tasksF g t ≠ 0 then tasksF g t else if within tries 1 20 = false then 1 else 0
theorem routeF_zero {g : Grid} {c : Costs} {t : List Task} {tries : Int} (h : routeF g c t tries = 0) : bothF g c = 0 ∧ tasksF g t = 0 ∧ 1 ≤ tries ∧ tries ≤ 20 := by
  unfold routeF at h
  split at h; · rename_i h1; exact absurd h h1
  rename_i h1
  split at h; · rename_i h2; exact absurd h h2
  rename_i h2
  split at h; · cases h
  rename_i h3
  have h4 : within tries 1 20 = true := by simpa using h3
  rw [within_iff] at h4
  exact ⟨Decidable.not_not.1 h1, Decidable.not_not.1 h2, h4.1, h4.2⟩
theorem bothF_grid {g : Grid} {c : Costs} (h : bothF g c = 0) : gridF g = 0 := by
  unfold bothF at h
  split at h
  · rename_i e; exact absurd h e
  · rename_i e; exact Decidable.not_not.1 e
theorem S_route_Route {g : Grid} {c : Costs} {t : List Task} {tries : Int} {Q : List Routed → Int → Prop} (h1 : routeF g c t tries ≠ 0 → Q [] (routeF g c t tries))
    (h0 : routeF g c t tries = 0 → ∀ b l, LRun g c t tries 1 (List.range t.length) [] [] b l → Ran g c t b l → Q (resL t b l) 0) : M_route_Route g c t tries Q := by
  unfold M_route_Route
  refine S_checkBoth (cnd_of (fun e => ?_) (fun e => ?_))
  · have e' : bothF g c ≠ 0 := by simpa using e
    unfold routeF at h1; rw [if_pos e'] at h1; exact h1 e'
  have eb : bothF g c = 0 := by simpa using e
  refine S_route_CheckTasks (cnd_of (fun e => ?_) (fun e => ?_))
  · have e' : tasksF g t ≠ 0 := by simpa using e
    unfold routeF at h1; rw [if_neg (by simp [eb]), if_pos e'] at h1; exact h1 e'
  have et : tasksF g t = 0 := by simpa using e
  refine cnd_of (fun e => ?_) (fun e => ?_)
  · have e' : within tries 1 20 = false := by simpa using e
    unfold routeF at h1; rw [if_neg (by simp [eb]), if_neg (by simp [et]), if_pos e'] at h1; exact h1 (by decide)
  have ew : within tries 1 20 = true := by simpa using e
  have er : routeF g c t tries = 0 := by unfold routeF; rw [if_neg (by simp [eb]), if_neg (by simp [et]), if_neg (by rw [ew]; decide)]
  have h0 := h0 er
  clear h1
  obtain ⟨_, _, ht1, ht2⟩ := routeF_zero er
  obtain ⟨hg, hc⟩ := bothF_zero eb
  have hgf := bothF_grid eb
  have ok := tasks_ok et
  have htl := ok.len
  refine forIn0 (fun k (l : List Int) => l = ints (List.range k)) rfl (fun k x l hx hI next hn => ?_) (fun l hI => ?_)
  · have hk := lt_of_get hx
    unfold M_route_Route_L1
    subst hI
    refine ⟨⟨by rw [List.length_append, ints_len, List.length_range, List.length_singleton]; omega, by rw [List.length_append, ints_len, List.length_range, List.length_singleton]; omega⟩, hn _ ?_⟩
    rw [ints_snoc, List.range_succ]
  subst hI
  show lp _ (ints (List.range t.length), ([] : List (List (List Cell))), (([] : List Int)), 1)
  have hfull : Full t (List.range t.length) := ⟨List.nodup_range, fun i => List.mem_range⟩
  refine lp_intro (fun s => ∃ row lost, s.1 = ints row ∧ s.2.2.1 = ints lost ∧ Full t row ∧ 1 ≤ s.2.2.2 ∧ (s.2.2.2 = 1 ∨ Ran g c t s.2.1 lost) ∧ ∀ b l, LRun g c t tries s.2.2.2 row s.2.1 lost b l → Ran g c t b l → Q (resL t b l) 0) (fun s => (tries + 1 - s.2.2.2).toNat) ⟨_, [], rfl, rfl, hfull, Int.le_refl _, .inl rfl, h0⟩ ?_
  rintro X ⟨_, best, _, n⟩ ⟨row, lost, rfl, rfl, hf, hn1, hran, hK⟩ hX
  simp only at hn1 hran hK
  show M_route_Route_L2 g c t tries Q (fun l6 l7 l8 n2 => X (l6, l7, l8, n2)) (ints row) best (ints lost) n
  unfold M_route_Route_L2
  have blen : ∀ {b l}, Ran g c t b l → b.length = t.length := fun {b l} ⟨row, U, hf, hR⟩ => (hR.fact hgf hc ok hf.nodup).len
  refine cnd_of (fun e => ?_) (fun e => ?_)
  · have hnt : n ≤ tries := of_decide_eq_true e
    have hw : w64 (n + 1) = n + 1 := w64_id (by omega) (by omega)
    refine S_route_round hgf hc ok hf.nodup (fun i hi => (hf.all i).1 hi) fun U out F hR => ?_
    have hro : Ran g c t out F := ⟨row, U, hf, hR⟩
    have fact := hR.fact hgf hc ok hf.nodup
    have turn : ∀ f F', F = f :: F' → ∀ b1 l1, (b1, l1) = Pick n best lost out F → M_index_int (ints row) (f : Int) fun y6 => M_delete_int (ints row) y6 (w64 (y6 + 1)) fun y7 => M_insert_int y7 0 [(f : Int)] fun y8 z1 => X (y8, b1, ints l1, w64 (n + 1)) := by
      intro f F' hF b1 l1 hp
      have hfr : f ∈ row := fact.fsub f (by rw [hF]; exact List.mem_cons_self ..)
      refine S_index_int hfr fun k hk hbefore => ?_
      have hkl := lt_of_get hk
      have hrl : row.length ≤ t.length := nodup_len t.length row hf.nodup (fun i hi => (hf.all i).1 hi)
      have hwk : w64 ((k : Int) + 1) = ((k + 1 : Nat) : Int) := by rw [w64_id (by omega) (by omega)]; omega
      unfold M_delete_int
      rw [hwk]
      refine ⟨⟨by omega, by omega, by rw [ints_len]; omega⟩, ?_⟩
      rw [Int.toNat_natCast, Int.toNat_natCast]
      have erow : (ints row).take k ++ (ints row).drop (k + 1) = ints (row.erase f) := by
        rw [erase_at hk hbefore]; unfold ints; rw [List.map_append, List.map_take, List.map_drop]
      rw [erow]
      have hel : (row.erase f).length ≤ 100 := by have := List.length_erase_le (a := f) (l := row); omega
      unfold M_insert_int
      refine ⟨⟨by omega, by omega, by simp, by rw [ints_len, List.length_singleton]; exact ⟨by omega, by omega⟩⟩, ?_⟩
      have e2 : (ints (row.erase f)).take (0 : Int).toNat ++ [(f : Int)] ++ (ints (row.erase f)).drop (0 : Int).toNat = ints (f :: row.erase f) := by unfold ints; simp
      rw [e2, hw]
      have hpr := pick_ran hran hro
      rw [← hp] at hpr
      refine hX _ ⟨f :: row.erase f, l1, rfl, rfl, hf.turn hfr, by simp only; omega, .inr hpr, fun b l hL hRan => hK b l ?_ hRan⟩ (by simp only; omega)
      have hp1 : b1 = (Pick n best lost out (f :: F')).1 := by rw [← hF, ← hp]
      have hp2 : l1 = (Pick n best lost out (f :: F')).2 := by rw [← hF, ← hp]
      subst hF
      refine .next hnt hR ?_
      rw [← hp1, ← hp2]; exact hL
    have k3 : ∀ cc, (cc = true → Pick n best lost out F = (out, F)) → (cc = false → Pick n best lost out F = (best, lost)) → M_route_Route_k3 t Q (ints row) best (ints lost) n (fun l6 l7 l8 n2 => X (l6, l7, l8, n2)) out (ints F) cc := by
      intro cc hp1 hp0
      unfold M_route_Route_k3
      have lastQ : F = [] → ∀ b1 l1, (b1, l1) = Pick n best lost out F → Q (resL t b1 l1) 0 := fun hF b1 l1 hp => by
        subst hF
        have hpr := pick_ran hran hro
        rw [← hp] at hpr
        refine hK b1 l1 ?_ hpr
        have h5 := LRun.last (b := best) (l := lost) hnt hR
        rw [← hp] at h5; exact h5
      refine cnd_of (fun ec => ?_) (fun ec => ?_)
      · refine cnd_of (fun ez => ?_) (fun ez => ?_)
        · have hF : F = [] := by
            rw [ints_len] at ez
            have hz : (F.length : Int) = 0 := by simpa using ez
            exact List.eq_nil_of_length_eq_zero (by omega)
          exact S_result htl (blen hro) (fun k x l next hh => hh) (lastQ hF _ _ (hp1 ec).symm)
        · cases hF : F with
          | nil => rw [hF] at ez; simp [ints] at ez
          | cons f F' =>
            refine idx_nat (i := 0) (x := (f : Int)) rfl ?_
            have := turn f F' hF _ _ (hp1 ec).symm
            rw [← hF]; exact this
      · have hpp := hp0 ec
        refine cnd_of (fun ez => ?_) (fun ez => ?_)
        · have hF : F = [] := by
            rw [ints_len] at ez
            have hz : (F.length : Int) = 0 := by simpa using ez
            exact List.eq_nil_of_length_eq_zero (by omega)
          have hpr := pick_ran hran hro
          rw [hpp] at hpr
          exact S_result htl (blen hpr) (fun k x l next hh => hh) (lastQ hF _ _ hpp.symm)
        · cases hF : F with
          | nil => rw [hF] at ez; simp [ints] at ez
          | cons f F' => exact idx_nat (i := 0) (x := (f : Int)) rfl (turn f F' hF _ _ hpp.symm)
    refine cnd_of (fun e1 => k3 _ (fun _ => ?_) (fun e' => by cases e')) (fun e1 => k3 _ (fun e2 => ?_) (fun e2 => ?_))
    · unfold Pick; rw [if_pos (.inl (by simpa using e1))]
    · unfold Pick
      rw [if_pos (.inr (by rw [ints_len, ints_len] at e2; have := of_decide_eq_true e2; omega))]
    · unfold Pick
      rw [if_neg (by
        rintro (h | h)
        · simp at e1; exact e1 h
        · rw [ints_len, ints_len] at e2; have := of_decide_eq_false e2; omega)]
  · have hnt : tries < n := by have := of_decide_eq_false e; omega
    have hr : Ran g c t best lost := hran.resolve_left fun e => by omega
    exact S_result htl (blen hr) (fun k x l next hh => hh) (hK _ _ (.stop hnt) hr)
end Go.Proofs.YtihjaehkdgdenaaGreatDoor

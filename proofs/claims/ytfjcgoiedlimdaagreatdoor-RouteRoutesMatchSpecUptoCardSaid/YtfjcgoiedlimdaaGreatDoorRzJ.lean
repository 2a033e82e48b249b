/- Chapter texts of ours, as far as the claim needs them. -/
import Derived.Test.YtfjcgoiedlimdaaGreatDoorRzI
import Derived.Test.YtfjcgoiedlimdaaGreatDoorRzC
import Derived.Test.YtfjcgoiedlimdaaGreatDoorRyI
namespace Go.Proofs.YtfjcgoiedlimdaaGreatDoor
open Go Go.RowKit
set_option linter.unusedVariables false
set_option linter.unusedSectionVars false
set_option linter.unusedSimpArgs false
theorem IY {l : List Bool} (hl : l.length ≤ 1000000) {Q : Int → Prop} (h : Q ((l.count true : Nat) : Int)) : qy l Q := by
  unfold qy
  refine jO (fun k (n : Int) => n = (((l.take k).count true : Nat) : Int)) (by simp) (fun k x n hx hI next hn => ?_) (fun n hI => ?_)
  · have hk := dO hx
    have hc : (l.take k).count true ≤ k := by
      have := List.count_le_length (a := true) (l := l.take k)
      rw [List.length_take] at this; omega
    have hs : (l.take (k + 1)).count true = (l.take k).count true + (if x = true then 1 else 0) := by
      rw [List.take_add_one, hx, List.count_append]
      cases x <;> simp
    unfold qJ
    refine fB (fun e => hn _ ?_) (fun e => hn _ ?_)
    · subst hI
      rw [hs, if_pos e, fO (by omega) (by omega)]; omega
    · rw [hs, if_neg (by rw [e]; decide), hI]; rfl
  · rw [List.take_length] at hI
    show Q n
    rw [hI]; exact h
theorem Eu : ∀ {l m : List Nat}, l.Nodup → (∀ x ∈ l, x ∈ m) → l.length ≤ m.length
  | [], _, _, _ => Nat.zero_le _
  | x :: r, m, h, hs => by
    rw [List.nodup_cons] at h
    have hx := hs x (List.mem_cons_self ..)
    have h1 := Eu (m := m.erase x) h.2 (fun y hy => (List.mem_erase_of_ne (fun e => h.1 (by rw [← e]; exact hy))).2 (hs y (List.mem_cons_of_mem _ hy)))
    have h2 := List.length_erase_of_mem hx
    have h3 := List.length_pos_of_mem hx
    rw [List.length_cons]; omega
theorem JV {n : Nat} {F : List Nat} (hn : F.Nodup) (hF : ∀ i ∈ F, i < n) : (ql n F).count true = F.length := by
  have e1 : (ql n F).count true = ((List.range n).filter (fun i => decide (i ∈ F))).length := by
    unfold ql
    rw [List.count_eq_countP, List.countP_map, ← List.countP_eq_length_filter]
    congr 1
    funext i
    simp
  rw [e1]
  have h1 : ((List.range n).filter (fun i => decide (i ∈ F))).length ≤ F.length := Eu (List.nodup_range.filter _) (fun x hx => of_decide_eq_true (List.mem_filter.1 hx).2)
  have h2 : F.length ≤ ((List.range n).filter (fun i => decide (i ∈ F))).length := Eu hn (fun x hx => List.mem_filter.2 ⟨List.mem_range.2 (hF x hx), decide_eq_true hx⟩)
  omega
theorem J3 {l : List Int} (hl : l.length ≤ 1000000) {Q : List Int → Prop} (h : Q l) : wF l Q := by
  unfold wF
  intro b hb
  refine fB (fun e => ?_) (fun e => ?_)
  · rw [hb e] at h; exact h
  · rw [List.nil_append]; exact ⟨⟨by omega, by omega⟩, h⟩
theorem Jb {t : List Task} (htl : t.length ≤ 100) {best : List (List (List Cell))} (hb : best.length = t.length) {lost : List Nat} {Q : List fK → Int → Prop} (h : Q (Nl t best lost) 0) : oh t Q best (ql t.length lost) := by
  unfold oh
  refine jO (fun k (l : List fK) => l = ((List.range k).filter (fun i => decide (i ∉ lost))).map (fun i => (⟨(t.getD i ⟨[], []⟩).Net, best.getD i []⟩ : fK)) ∧ l.length ≤ k) ⟨rfl, Nat.le_refl _⟩ (fun k x l hx hI next hn => ?_) (fun l hI => ?_)
  · obtain ⟨h1, h2⟩ := hI
    have hk := dO hx
    unfold qF
    refine gG (vV hk) (fB (fun e => ?_) (fun e => ?_))
    · have hno : k ∉ lost := by simpa using e
      have hg := List.getElem?_eq_getElem (show k < best.length by omega)
      have hd : best.getD k [] = best[k]'(by omega) := by rw [List.getD_eq_getElem?_getD, hg]; rfl
      refine gG hg ⟨⟨by rw [List.length_append, List.length_singleton]; omega, by rw [List.length_append, List.length_singleton]; omega⟩, hn _ ⟨?_, by rw [List.length_append, List.length_singleton]; omega⟩⟩
      rw [AV hx, if_neg hno, ← h1, hd]
    · have hin : k ∈ lost := by simpa using e
      refine hn _ ⟨?_, by omega⟩
      rw [AV hx, if_pos hin, List.append_nil, ← h1]
  · show Q l 0
    rw [hI.1]; exact h
theorem BZ : ∀ {row F' : List Nat} {f : Nat}, row.Nodup → (f :: F').Sublist row → ∃ k : Nat, row[k]? = some f ∧ ∀ (j : Nat) x, j < k → row[j]? = some x → x ∉ f :: F'
  | [], F', f, _, h => by cases h
  | x :: r, F', f, hn, h => by
    rw [List.nodup_cons] at hn
    by_cases e : x = f
    · subst e; exact ⟨0, rfl, fun j y hj => by omega⟩
    · have h' : (f :: F').Sublist r := by
        cases h with
        | cons _ h => exact h
        | cons_cons _ h => exact absurd rfl e
      obtain ⟨k, h1, h2⟩ := BZ hn.2 h'
      refine ⟨k + 1, by simpa using h1, fun j y hj hy => ?_⟩
      cases j with
      | zero =>
        have : x = y := by simpa using hy
        subst this
        exact fun hm => hn.1 (h'.subset hm)
      | succ j => exact h2 j y (by omega) (by simpa using hy)
theorem EX {g : Grid} {c : gy} {t : List Task} (ht : ∀ x ∈ t, x.Net.length < 4294967281) {tries : Int} {b2 : List (List (List Cell))} {l2 : List Nat} {Q : List fK → Int → Prop} (h1 : qZ g c t tries ≠ 0 → Q [] (qZ g c t tries))
    (h0 : qZ g c t tries = 0 → Bh g c t tries 1 (List.range t.length) [] [] b2 l2 ∧ Q (Nl t b2 l2) 0) : vw g c t tries Q := by
  unfold vw
  refine MN (fB (fun e => ?_) (fun e => ?_))
  · have e' : uU g c ≠ 0 := by simpa using e
    unfold qZ at h1; rw [if_pos e'] at h1; exact h1 e'
  have eb : uU g c = 0 := by simpa using e
  refine yK ht (fB (fun e => ?_) (fun e => ?_))
  · have e' : vW g t ≠ 0 := by simpa using e
    unfold qZ at h1; rw [if_neg (by simp [eb]), if_pos e'] at h1; exact h1 e'
  have et : vW g t = 0 := by simpa using e
  refine fB (fun e => ?_) (fun e => ?_)
  · have e' : within tries 1 20 = false := by simpa using e
    unfold qZ at h1; rw [if_neg (by simp [eb]), if_neg (by simp [et]), if_pos e'] at h1; exact h1 (by decide)
  have ew : within tries 1 20 = true := by simpa using e
  have er : qZ g c t tries = 0 := by unfold qZ; rw [if_neg (by simp [eb]), if_neg (by simp [et]), if_neg (by rw [ew]; decide)]
  obtain ⟨hL, hQ⟩ := h0 er
  clear h1 h0
  obtain ⟨_, _, ht1, ht2⟩ := EW er
  obtain ⟨hg, hc⟩ := yX eb
  have hgf := Gv eb
  have ok := JH et
  have htl := ok.len
  refine jO (fun k (l : List Int) => l = ints (List.range k)) rfl (fun k x l hx hI next hn => ?_) (fun l hI => ?_)
  · have hk := dO hx
    unfold qI
    subst hI
    refine ⟨⟨by rw [List.length_append, jY, List.length_range, List.length_singleton]; omega, by rw [List.length_append, jY, List.length_range, List.length_singleton]; omega⟩, hn _ ?_⟩
    rw [D5, List.range_succ]
  subst hI
  show oL g c t (ints (List.range t.length)) _
  have hfull : Full t (List.range t.length) := ⟨List.nodup_range, fun i => List.mem_range⟩
  have failC : ∀ {row U out F}, Full t row → vH g c t row U out F → (ql t.length F).count true = F.length := fun {row U out F} hf hR => by
    have f := hR.fact hgf hc ok hf.nodup
    exact JV f.fnd (fun i hi => (hf.all i).1 (f.fsub i hi))
  have lostC : ∀ {b l}, Ran g c t b l → (ql t.length l).count true = l.length := fun {b l} ⟨row, U, hf, hR⟩ => failC hf hR
  have blen : ∀ {b l}, Ran g c t b l → b.length = t.length := fun {b l} ⟨row, U, hf, hR⟩ => (hR.fact hgf hc ok hf.nodup).len
  -- what a run tells of its first round
  have first : ∀ {n row b l}, Bh g c t tries n row b l b2 l2 → n ≤ tries → ∃ U out F, vH g c t row U out F ∧ ((F = [] ∧ ((b2, l2) = Pick n b l out F)) ∨ ∃ f F', F = f :: F' ∧ Bh g c t tries (n + 1) (f :: row.erase f) (Pick n b l out F).1 (Pick n b l out F).2 b2 l2) := by
    intro n row b l hr hn
    cases hr with
    | stop h => omega
    | last h hR => exact ⟨_, _, _, hR, .inl ⟨rfl, rfl⟩⟩
    | next h hR h2 => exact ⟨_, _, _, hR, .inr ⟨_, _, rfl, h2⟩⟩
  obtain ⟨U0, out0, F0, hR0, hrest0⟩ := first hL ht1
  refine EL hgf hc ok hfull.nodup (fun i hi => (hfull.all i).1 hi) hR0 ?_
  have hp0 : Pick 1 [] [] out0 F0 = (out0, F0) := by unfold Pick; rw [if_pos (.inl rfl)]
  rw [hp0] at hrest0
  refine Jl (fun s => ∃ row lost now n U out, s = (ints row, s.2.1, ql t.length lost, ql t.length now, n) ∧ Full t row ∧ 1 ≤ n ∧ n ≤ tries ∧ Ran g c t s.2.1 lost ∧ vH g c t row U out now ∧ ((now = [] ∧ (b2, l2) = (s.2.1, lost)) ∨ ∃ f F', now = f :: F' ∧ Bh g c t tries (n + 1) (f :: row.erase f) s.2.1 lost b2 l2)) (fun s => (tries + 1 - s.2.2.2.2).toNat)
    ⟨List.range t.length, F0, F0, 1, U0, out0, rfl, hfull, Int.le_refl _, ht1, ⟨_, _, hfull, hR0⟩, hR0, hrest0⟩ ?_
  rintro X ⟨_, best, _, _, n⟩ ⟨row, lost, now, n', U, out, hs, hf, hn1, hnt, hran, hR, hrest⟩ hX
  simp only [Prod.mk.injEq, true_and] at hs
  obtain ⟨rfl, rfl, rfl, rfl⟩ := hs
  simp only at hran hrest
  show mM g c t tries Q (fun l11 l12 l13 l14 n2 => X (l11, l12, l13, l14, n2)) (ints row) best (ql t.length lost) (ql t.length now) n
  unfold mM
  have stopQ : (b2, l2) = (best, lost) → oh t Q best (ql t.length lost) := fun e => by
    injection e with e1 e2
    subst e1; subst e2
    exact Jb htl (blen hran) hQ
  have hnowC := failC hf hR
  have hrl : row.length ≤ 100 := by have := jT t.length row hf.nodup (fun i hi => (hf.all i).1 hi); omega
  refine fB (fun e => ?_) (fun e => ?_)
  · have hlt : n < tries := of_decide_eq_true e
    refine IY (by rw [uV]; omega) ?_
    rw [hnowC]
    unfold kQ
    refine fB (fun e2 => ?_) (fun e2 => ?_)
    · have hpos : 0 < now.length := by have := of_decide_eq_true e2; omega
      rcases hrest with ⟨h1, _⟩ | ⟨f, F', hF, hL2⟩
      · rw [h1] at hpos; simp at hpos
      subst hF
      obtain ⟨k, hk, hbefore⟩ := BZ hf.nodup hR.sub
      have hkl := dO hk
      have hfr : f ∈ row := List.mem_of_getElem? hk
      have hbef : ∀ j, j < k → row[j]? ≠ some f := fun j hj hje => hbefore j f hj hje (List.mem_cons_self ..)
      obtain ⟨U1, out1, F1, hR1, hrest1⟩ := first hL2 (by omega)
      have hf1 := hf.turn hfr
      have hw : w64 (n + 1) = n + 1 := fO (by omega) (by omega)
      have igets : ∀ (j : Nat) x, row[j]? = some x → (ints row)[j]? = some (x : Int) := fun j x hx => by unfold ints; rw [List.getElem?_map, hx]; rfl
      refine oU (fun m (s : Int) => ∃ j : Nat, s = (j : Int) ∧ j + m = k) (n := k) ⟨0, rfl, by omega⟩ ?_
      rintro m s X2 ⟨j, rfl, hjm⟩ hX2
      unfold kR
      have hjl : j < row.length := by omega
      have hg := List.getElem?_eq_getElem hjl
      have hxlt := (hf.all _).1 (List.mem_of_getElem? hg)
      refine gG (igets j _ hg) (gG (vV hxlt) ?_)
      refine fB (fun e3 => ?_) (fun e3 => ?_)
      · have hno : row[j] ∉ f :: F' := by simpa using e3
        have hjk : j ≠ k := fun e4 => by
          subst e4
          rw [hg] at hk; injection hk with hk
          exact hno (by rw [hk]; exact List.mem_cons_self ..)
        have hwj : w64 ((j : Int) + 1) = ((j + 1 : Nat) : Int) := by rw [fO (by omega) (by omega)]; omega
        rw [hwj]
        exact hX2 (m - 1) _ (by omega) ⟨j + 1, rfl, by omega⟩
      · have hin : row[j] ∈ f :: F' := Classical.byContradiction fun hno => by rw [decide_eq_false hno] at e3; cases e3
        have hjk : j = k := Classical.byContradiction fun hc2 => hbefore j _ (by omega) hg hin
        subst hjk
        have ef : row[j] = f := by rw [hg] at hk; injection hk
        rw [ef]
        refine J3 (by rw [jY]; omega) ?_
        have hwk : w64 ((j : Int) + 1) = ((j + 1 : Nat) : Int) := by rw [fO (by omega) (by omega)]; omega
        unfold qx
        rw [hwk]
        refine ⟨⟨by omega, by omega, by rw [jY]; omega⟩, ?_⟩
        rw [Int.toNat_natCast, Int.toNat_natCast]
        have erow : (ints row).take j ++ (ints row).drop (j + 1) = ints (row.erase f) := by
          rw [FD hk hbef]; unfold ints; rw [List.map_append, List.map_take, List.map_drop]
        rw [erow]
        have hel : (row.erase f).length ≤ 100 := by have := List.length_erase_le (a := f) (l := row); omega
        unfold qp
        refine ⟨⟨by omega, by omega, by simp, by rw [jY, List.length_singleton]; exact ⟨by omega, by omega⟩⟩, ?_⟩
        have e2' : (ints (row.erase f)).take (0 : Int).toNat ++ [(f : Int)] ++ (ints (row.erase f)).drop (0 : Int).toNat = ints (f :: row.erase f) := by unfold ints; simp
        rw [e2']
        refine EL hgf hc ok hf1.nodup (fun i hi => (hf1.all i).1 hi) hR1 ?_
        refine IY (by rw [uV]; omega) (IY (by rw [uV]; omega) ?_)
        rw [failC hf1 hR1, lostC hran, hw]
        have hn2 : n + 1 ≠ 1 := by omega
        refine fB (fun e5 => ?_) (fun e5 => ?_)
        · have hlt5 : F1.length < lost.length := by have := of_decide_eq_true e5; omega
          have hp : Pick (n + 1) best lost out1 F1 = (out1, F1) := by unfold Pick; rw [if_pos (.inr hlt5)]
          rw [hp] at hrest1
          exact hX _ ⟨f :: row.erase f, F1, F1, n + 1, U1, out1, rfl, hf1, by omega, by omega, ⟨_, _, hf1, hR1⟩, hR1, hrest1⟩ (by simp only; omega)
        · have hlt5 : ¬ F1.length < lost.length := by have := of_decide_eq_false e5; omega
          have hp : Pick (n + 1) best lost out1 F1 = (best, lost) := by
            unfold Pick
            rw [if_neg (by
              rintro (h | h)
              · exact hn2 h
              · exact hlt5 h)]
          rw [hp] at hrest1
          exact hX _ ⟨f :: row.erase f, lost, F1, n + 1, U1, out1, rfl, hf1, by omega, by omega, hran, hR1, hrest1⟩ (by simp only; omega)
    · have hz : now = [] := List.eq_nil_of_length_eq_zero (by have := of_decide_eq_false e2; omega)
      rcases hrest with ⟨_, h2⟩ | ⟨f, F', hF, _⟩
      · exact stopQ h2
      · rw [hF] at hz; cases hz
  · have hge : tries = n := by have := of_decide_eq_false e; omega
    unfold kQ
    refine fB (fun e' => by cases e') (fun _ => ?_)
    rcases hrest with ⟨_, h2⟩ | ⟨f, F', hF, hL2⟩
    · exact stopQ h2
    · cases hL2 with
      | stop _ => exact stopQ rfl
      | last h _ => omega
      | next h _ _ => omega
theorem Fb {a : List (List Cell)} {Q : Bool → Prop} (h : Q true) : qN a a Q := by
  unfold qN
  refine fB (fun e => by simp at e) (fun _ => jO (fun _ (_ : Unit) => True) trivial (fun k x _ hx _ next hn => ?_) (fun _ _ => h))
  unfold nV
  exact gG (i := k) (x := x) hx (Jc (fB (fun e => by simp at e) (fun _ => hn _ trivial)))
theorem DL {a : List fK} {Q : Bool → Prop} (h : Q true) : mr a a Q := by
  unfold mr
  refine fB (fun e => by simp at e) (fun _ => jO (fun _ (_ : Unit) => True) trivial (fun k x _ hx _ next hn => ?_) (fun _ _ => h))
  unfold lT
  refine gG (i := k) (x := x) hx (fB (fun e => by simp at e) (fun _ => Fb ?_))
  unfold lN
  exact fB (fun e => by cases e) (fun _ => hn _ trivial)
theorem Fe (g : Grid) (c : gy) (t : List Task) (tries : Int) (k2 : Bulk.bk t ≤ 1048576) : wZ g c t tries (· = true) := by
  have ht : ∀ x ∈ t, x.Net.length < 4294967281 := fun x hx => by
    have h1 := NW hx
    have h2 : Bulk.bk x = (x.Net.length + 1) + (Bulk.bk x.Pins + 1) := rfl
    omega
  unfold wZ
  have fin : ∀ (a : List fK) (f : Int), kz g t fun y5 => kK g t fun y6 => cnd (y5 == y6) (cnd (f == f) (mr a a fun y7 => cnd y7 (qU fun y8 => y8 = true) (false = true)) (false = true)) (false = true) := fun a f => by
    refine xG (yK ht (fB (fun _ => fB (fun _ => DL (fB (fun _ => OQ rfl) (fun e => by cases e))) (fun e => by simp at e)) (fun e => by simp at e)))
  refine G8 (fun e => ?_) (fun e b l hL hr => ?_)
  · exact EX (b2 := []) (l2 := []) ht (fun _ => fin _ _) (fun e2 => absurd e2 e)
  · exact EX ht (fun e2 => absurd e e2) (fun _ => ⟨hL, fin _ _⟩)
end Go.Proofs.YtfjcgoiedlimdaaGreatDoor

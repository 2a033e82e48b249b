/- Chapter texts of ours, as far as the claim needs them. -/
import Derived.Test.YtfjcgoiedlimdaaGreatDoorRzD
import Derived.Test.YtfjcgoiedlimdaaGreatDoorRtN
namespace Go.Proofs.YtfjcgoiedlimdaaGreatDoor
open Go Go.RowKit
set_option linter.unusedVariables false
set_option linter.unusedSectionVars false
set_option linter.unusedSimpArgs false
def ints (l : List Nat) : List Int := l.map (fun i : Nat => (i : Int))
theorem jY (l : List Nat) : (ints l).length = l.length := List.length_map _
theorem D5 (l : List Nat) (i : Nat) : ints l ++ [(i : Int)] = ints (l ++ [i]) := by unfold ints; rw [List.map_append]; rfl
theorem ND {g : Grid} (hs : Sz g) {L A : List Cell} (hL : ∀ c ∈ L, inG g c = true) {l : List Bool} (hl : Mk g A l) {next : List Bool → Prop} (h : ∀ l', Mk g (A ++ L) l' → next l') {k : Nat} : kE g k L l next := by
  unfold kE
  refine jO (fun j (m : List Bool) => Mk g (A ++ L.take j) m) (by simpa using hl) (fun j c m hc hJ nx hnn => ?_) (fun m hJ => ?_)
  · unfold pG
    have hin := hL c (List.mem_of_getElem? hc)
    have hlt := oK hs hin
    refine qH hs hin (gG (List.getElem?_eq_getElem (by rw [hJ.1]; exact hlt)) ?_)
    rw [Int.toNat_natCast]
    refine hnn _ ?_
    rw [List.take_add_one, hc, ← List.append_assoc]
    exact hJ.set hs hin
  · rw [List.take_length] at hJ; exact h m hJ
theorem Hf {g : Grid} (h0 : uf g = 0) {c : gy} (hc : COk c) {t : List Task} (ok : TOk g t) {row : List Nat} (hnd : row.Nodup) (hlt : ∀ i ∈ row, i < t.length) {Q : List (List (List Cell)) → List Int → Prop}
    (h : ∀ U out F, vH g c t row U out F → Q out (ints F)) : uh g c t (ints row) Q := by
  have hs := ok.gok.sz
  have hN := ok.gok.N
  have htl := ok.len
  have hnl : (kS g).length = (grG g).N := by unfold kS; simp
  unfold uh
  refine Ep ok.gok ⟨⟨by omega, by omega⟩, ?_⟩
  rw [hnl]
  refine MV ok fun arr harr => ⟨⟨by omega, by omega⟩, ?_⟩
  show forIn' _ _ (ints row) 0 (([] : List Int), (List.replicate t.length ([] : (List (List Cell)))), kS g)
  have mk0 : Mk g [] (kS g) := ⟨hnl, fun n hn => by rw [zQ hn]; congr 1; unfold rJ; simp⟩
  refine jO (fun k (s : List Int × List (List (List Cell)) × List Bool) => ∃ U F, s.1 = ints F ∧ vH g c t (row.take k) U s.2.1 F ∧ Mk g U s.2.2 ∧ k ≤ row.length) ⟨[], [], rfl, .nil, mk0, Nat.zero_le _⟩ (fun k x s hx hI next hn => ?_) (fun s hI => ?_)
  · obtain ⟨U, F, hF, hR, hM, hk⟩ := hI
    obtain ⟨l6, out, l8⟩ := s
    simp only at hF hR hM
    subst hF
    obtain ⟨i, hi, rfl⟩ : ∃ i : Nat, row[k]? = some i ∧ (i : Int) = x := by
      unfold ints at hx
      rw [List.getElem?_map] at hx
      cases hr : row[k]? with
      | none => rw [hr] at hx; cases hx
      | some i => rw [hr] at hx; injection hx with hx; exact ⟨i, rfl, hx⟩
    have hil := hlt i (List.mem_of_getElem? hi)
    have hkr := dO hi
    have hu := List.getElem?_eq_getElem hil
    obtain ⟨u, hu⟩ : ∃ u, t[i]? = some u := ⟨_, hu⟩
    have htk : row.take (k + 1) = row.take k ++ [i] := by rw [List.take_add_one, hi]; rfl
    have hndk : (row.take (k + 1)).Nodup := hnd.sublist (List.take_sublist _ _)
    rw [htk] at hndk
    have hnd' := List.nodup_append.1 hndk
    have hid : i ∉ row.take k := fun h => hnd'.2.2 i h i (by simp) rfl
    have f := hR.fact h0 hc ok hnd'.1
    have hX := CU (i := i) ok f.uin
    have hpf := DY ok f.uin f.upin hid hu
    have hgX := oZ (zA h0 hX)
    obtain ⟨p1, p2, p3, p4⟩ := ok.pins u (List.mem_of_getElem? hu)
    have hFl : F.length ≤ 100 := by
      have h1 := jT t.length F f.fnd (fun j hj => hlt j (List.mem_of_mem_take (f.fsub j hj)))
      omega
    show lH g c t arr k (i : Int) (ints F) out l8 (fun l6 l7 l8 => next (l6, l7, l8))
    unfold lH
    have go : forIn' (fun k x (s : List Bool) next => ni (i : Int) k x s (fun l10 => next l10)) (fun (s : List Bool) => (fun (l10 : List Bool) => idx t (i : Int) fun x1 => lJ (⟨g, c, l10⟩ : eX) x1.Pins fun y3 y4 => cnd (!y4) (must (room (ints F ++ [(i : Int)]).length 8) (next (ints F ++ [(i : Int)], out, l8))) (idx out (i : Int) fun x2 => forIn' (fun k x (s : List Bool) next => kE g k x s (fun l12 => next l12)) (fun (s : List Bool) => (fun (l12 : List Bool) => next (ints F, out.set (i : Int).toNat y3, l12)) s) y3 0 l8)) s) arr 0 l8 := by
      refine jO (fun m (l : List Bool) => l.length = (grG g).N ∧ ∀ n, n < (grG g).N → l[n]? = some ((rJ g g.Blocked n || rJ g U n) || (decide (n < m) && rJ g (jJ t i) n))) ⟨hM.1, fun n hn => by rw [hM.2 n hn]; simp⟩ (fun m v l hv hJ nx hnn => ?_) (fun l hJ => ?_)
      · have hmN : m < (grG g).N := by have := dO hv; rw [harr.1] at this; exact this
        obtain ⟨v', hv', hown⟩ := I4 ok harr hmN hil
        rw [hv] at hv'; injection hv' with hv'; subst hv'
        have keep : rJ g (jJ t i) m = false → nx l := fun e => hnn _ ⟨hJ.1, fun n hn => by
          rw [hJ.2 n hn]
          by_cases en : n = m
          · subst en; rw [e]; simp
          · have : decide (n < m + 1) = decide (n < m) := by rw [decide_eq_decide]; omega
            rw [this]⟩
        have put : rJ g (jJ t i) m = true → nx (l.set m true) := fun e => hnn _ ⟨by rw [List.length_set]; exact hJ.1, fun n hn => by
          rw [wJ (by rw [hJ.1]; exact hmN)]
          by_cases en : n = m
          · subst en; rw [if_pos rfl, e]; simp
          · rw [if_neg en, hJ.2 n hn]
            have : decide (n < m + 1) = decide (n < m) := by rw [decide_eq_decide]; omega
            rw [this]⟩
        have k6 : ∀ b, b = rJ g (jJ t i) m → nJ m l nx b := by
          rintro b rfl
          unfold nJ
          exact fB (fun e => gG (List.getElem?_eq_getElem (by rw [hJ.1]; exact hmN)) (put e)) keep
        unfold ni
        refine fB (fun e => k6 _ ?_) (fun e => k6 _ ?_)
        · rw [e, Bool.true_and] at hown; exact hown
        · rw [e, Bool.false_and] at hown; exact hown
      · have hMk : Mk g (U ++ jJ t i) l := ⟨hJ.1, fun n hn => by
          rw [hJ.2 n hn, EU]
          have : decide (n < arr.length) = true := decide_eq_true (by rw [harr.1]; exact hn)
          rw [this, Bool.true_and, Bool.or_assoc]⟩
        refine gG hu ?_
        rw [OO hMk]
        refine MF (B := kG g (U ++ jJ t i)) ?_
        refine GX (g := jk g (U ++ jJ t i)) hgX hc p1 (by omega) hpf fun W okb hT => ?_
        cases okb with
        | false =>
          refine fB (fun _ => ⟨⟨by rw [List.length_append, jY, List.length_singleton]; omega, by rw [List.length_append, jY, List.length_singleton]; omega⟩, hn _ ⟨U, F ++ [i], D5 F i, ?_, hM, by omega⟩⟩) (fun e => by cases e)
          rw [htk]; exact .bad hR hu hT
        | true =>
          refine fB (fun e => by cases e) (fun _ => gG (List.getElem?_eq_getElem (by rw [f.len]; exact hil)) ?_)
          have hr := hT.right hgX hc
          have hWin : ∀ w ∈ W, ∀ c ∈ w, inG g c = true := fun w hw c hcw => by
            have h1 := (Az ok.gok hX (hr w hw)).1
            obtain ⟨j, hj⟩ := List.getElem?_of_mem hcw
            exact (AZ ((uY h1).2.2 j c hj)).1
          refine jO (fun j (m : List Bool) => Mk g (U ++ (W.take j).flatten) m) (by simpa using hM) (fun j w m hw hJ2 nx hnn => ?_) (fun m hJ2 => ?_)
          · refine ND hs (hWin w (List.mem_of_getElem? hw)) hJ2 fun l' hl' => hnn _ ?_
            have hw' : W[j]? = some w := hw
            rw [List.take_add_one, hw', List.flatten_append, ← List.append_assoc]
            simpa using hl'
          · have hJ3 : Mk g (U ++ W.flatten) m := by
              have e : (W.take W.length).flatten = W.flatten := by rw [List.take_length]
              rw [← e]; exact hJ2
            refine hn _ ⟨U ++ W.flatten, F, rfl, ?_, hJ3, by omega⟩
            rw [htk, Int.toNat_natCast]
            exact .good hR hu hT
    intro b hb
    refine fB (fun e => ?_) (fun e => ?_)
    · rw [← hb e]; exact go
    · rw [List.nil_append]
      exact ⟨⟨by rw [hM.1]; omega, by rw [hM.1]; omega⟩, go⟩
  · obtain ⟨U, F, hF, hR, hM, hk⟩ := hI
    rw [jY, List.take_length] at hR
    show Q s.2.1 s.1
    rw [hF]; exact h U _ F hR
def Nl (t : List Task) (best : List (List (List Cell))) (lost : List Nat) : List fK :=
  ((List.range t.length).filter (fun i => decide (i ∉ lost))).map (fun i => ⟨(t.getD i ⟨[], []⟩).Net, best.getD i []⟩)
theorem Gh {F : List Nat} {k : Nat} {Q : Bool → Prop} (h : Q (decide (k ∈ F))) : lV (ints F) (k : Int) Q := by
  unfold lV oM
  refine BQ (fun x : Int => (k : Int) == x) (A := fun i => Q (decide ((i : Int) ≥ 0))) (fun j x next hq => ?_) (ints F) 0 ?_
  · unfold pR
    refine fB (fun e => ?_) (fun e => ?_)
    · rw [if_pos e] at hq; exact hq
    · rw [if_neg (by rw [e]; decide)] at hq; exact hq
  · cases hf : (ints F).findIdx? (fun x : Int => (k : Int) == x) with
    | none =>
      have : k ∉ F := fun hm => by
        have := List.findIdx?_eq_none_iff.1 hf (k : Int) (List.mem_map.2 ⟨k, hm, rfl⟩)
        simp at this
      rw [decide_eq_false this] at h
      exact h
    | some i =>
      obtain ⟨h1, h2, _⟩ := List.findIdx?_eq_some_iff_getElem.1 hf
      have : k ∈ F := by
        have e : (ints F)[i] = (k : Int) := by have : (k : Int) = (ints F)[i] := by simpa using h2
                                               exact this.symm
        have hm : (ints F)[i] ∈ ints F := List.getElem_mem h1
        rw [e] at hm
        obtain ⟨m, hm1, hm2⟩ := List.mem_map.1 hm
        have : m = k := Int.ofNat_inj.1 hm2
        exact this ▸ hm1
      rw [decide_eq_true this] at h
      show Q (decide (((0 + i : Nat) : Int) ≥ 0))
      rw [decide_eq_true (Int.natCast_nonneg _)]; exact h
theorem JP {row : List Nat} {f : Nat} (hf : f ∈ row) {Q : Int → Prop} (h : ∀ k : Nat, row[k]? = some f → (∀ j, j < k → row[j]? ≠ some f) → Q (k : Int)) : oM (ints row) (f : Int) Q := by
  unfold oM
  refine BQ (fun x : Int => (f : Int) == x) (A := fun i => Q (i : Int)) (fun j x next hq => ?_) (ints row) 0 ?_
  · unfold pR
    refine fB (fun e => ?_) (fun e => ?_)
    · rw [if_pos e] at hq; exact hq
    · rw [if_neg (by rw [e]; decide)] at hq; exact hq
  · cases hk : (ints row).findIdx? (fun x : Int => (f : Int) == x) with
    | none =>
      have := List.findIdx?_eq_none_iff.1 hk (f : Int) (List.mem_map.2 ⟨f, hf, rfl⟩)
      simp at this
    | some i =>
      obtain ⟨h1, h2, h3⟩ := List.findIdx?_eq_some_iff_getElem.1 hk
      have hir : i < row.length := by rw [jY] at h1; exact h1
      have get : ∀ j (hj : j < row.length), (ints row)[j]'(by rw [jY]; exact hj) = (row[j] : Int) := fun j hj => by unfold ints; rw [List.getElem_map]
      have e : row[i] = f := by
        have e1 : (f : Int) = (ints row)[i] := by simpa using h2
        rw [get i hir] at e1; exact (Int.ofNat_inj.1 e1).symm
      show Q (((0 + i : Nat)) : Int)
      rw [Nat.zero_add]
      refine h i (by rw [List.getElem?_eq_getElem hir, e]) fun j hj hje => ?_
      have hjr := dO hje
      have := h3 j hj
      have e2 : row[j] = f := by rw [List.getElem?_eq_getElem hjr] at hje; injection hje
      rw [get j hjr, e2] at this
      simp at this
theorem AV {t : List Task} {best : List (List (List Cell))} {lost : List Nat} {k : Nat} {x : Task} (hx : t[k]? = some x) :
    ((List.range (k + 1)).filter (fun i => decide (i ∉ lost))).map (fun i => (⟨(t.getD i ⟨[], []⟩).Net, best.getD i []⟩ : fK)) = ((List.range k).filter (fun i => decide (i ∉ lost))).map (fun i => (⟨(t.getD i ⟨[], []⟩).Net, best.getD i []⟩ : fK)) ++ (if k ∈ lost then [] else [⟨x.Net, best.getD k []⟩]) := by
  rw [List.range_succ, List.filter_append, List.map_append]
  congr 1
  have e : t.getD k ⟨[], []⟩ = x := by rw [List.getD_eq_getElem?_getD, hx]; rfl
  by_cases h : k ∈ lost
  · rw [if_pos h, List.filter_cons_of_neg (by simpa using h)]; rfl
  · rw [if_neg h, List.filter_cons_of_pos (by simpa using h)]
    show [(⟨(t.getD k ⟨[], []⟩).Net, best.getD k []⟩ : fK)] = _
    rw [e]
theorem Gs {t : List Task} (htl : t.length ≤ 100) {best : List (List (List Cell))} (hb : best.length = t.length) {lost : List Nat} {B : Nat → Task → List fK → (List fK → Prop) → Prop} {D : List fK → Prop}
    (hB : ∀ (k : Nat) x l next, (lV (ints lost) (k : Int) fun y5 => cnd (!y5) (idx best (k : Int) fun x1 => must (room (l ++ [(⟨x.Net, x1⟩ : fK)]).length 40) (next (l ++ [(⟨x.Net, x1⟩ : fK)]))) (next l)) → B k x l next)
    (h : D (Nl t best lost)) : forIn' B D t 0 ([] : List fK) := by
  refine jO (fun k (l : List fK) => l = ((List.range k).filter (fun i => decide (i ∉ lost))).map (fun i => (⟨(t.getD i ⟨[], []⟩).Net, best.getD i []⟩ : fK)) ∧ l.length ≤ k) ⟨rfl, Nat.le_refl _⟩ (fun k x l hx hI next hn => ?_) (fun l hI => ?_)
  · obtain ⟨h1, h2⟩ := hI
    have hk := dO hx
    refine hB k x l next (Gh (fB (fun e => ?_) (fun e => ?_)))
    · have hno : k ∉ lost := by simpa using e
      have hg := List.getElem?_eq_getElem (show k < best.length by omega)
      have hd : best.getD k [] = best[k]'(by omega) := by rw [List.getD_eq_getElem?_getD, hg]; rfl
      refine gG hg ⟨⟨by rw [List.length_append, List.length_singleton]; omega, by rw [List.length_append, List.length_singleton]; omega⟩, hn _ ⟨?_, by rw [List.length_append, List.length_singleton]; omega⟩⟩
      rw [AV hx, if_neg hno, ← h1, hd]
    · have hin : k ∈ lost := by simpa using e
      refine hn _ ⟨?_, by omega⟩
      rw [AV hx, if_pos hin, List.append_nil, ← h1]
  · rw [hI.1]; exact h
def Pick (n : Int) (b : List (List (List Cell))) (l : List Nat) (out : List (List (List Cell))) (F : List Nat) : List (List (List Cell)) × List Nat := if n = 1 ∨ F.length < l.length then (out, F) else (b, l)
inductive Bh (g : Grid) (c : gy) (t : List Task) (tries : Int) : Int → List Nat → List (List (List Cell)) → List Nat → List (List (List Cell)) → List Nat → Prop
  | stop {n : Int} {row : List Nat} {b : List (List (List Cell))} {l : List Nat} (hn : tries < n) : Bh g c t tries n row b l b l
  | last {n : Int} {row : List Nat} {b : List (List (List Cell))} {l : List Nat} {U : List Cell} {out : List (List (List Cell))} (hn : n ≤ tries) (hR : vH g c t row U out []) : Bh g c t tries n row b l (Pick n b l out []).1 (Pick n b l out []).2
  | next {n : Int} {row : List Nat} {b : List (List (List Cell))} {l : List Nat} {U : List Cell} {out : List (List (List Cell))} {F : List Nat} {f : Nat} {b2 : List (List (List Cell))} {l2 : List Nat} (hn : n ≤ tries) (hR : vH g c t row U out (f :: F))
      (h : Bh g c t tries (n + 1) (f :: row.erase f) (Pick n b l out (f :: F)).1 (Pick n b l out (f :: F)).2 b2 l2) : Bh g c t tries n row b l b2 l2
structure Full (t : List Task) (row : List Nat) : Prop where
  nodup : row.Nodup
  all : ∀ i, i ∈ row ↔ i < t.length
theorem Full.turn {t : List Task} {row : List Nat} (h : Full t row) {f : Nat} (hf : f ∈ row) : Full t (f :: row.erase f) :=
  ⟨List.nodup_cons.2 ⟨fun hm => (h.nodup.mem_erase_iff.1 hm).1 rfl, h.nodup.erase f⟩, fun i => by
    rw [List.mem_cons, h.nodup.mem_erase_iff, ← h.all]
    constructor
    · rintro (rfl | ⟨_, h1⟩)
      · exact hf
      · exact h1
    · intro h1
      by_cases e : i = f
      · exact .inl e
      · exact .inr ⟨e, h1⟩⟩
theorem FD : ∀ {row : List Nat} {k f : Nat}, row[k]? = some f → (∀ j, j < k → row[j]? ≠ some f) → row.erase f = row.take k ++ row.drop (k + 1)
  | [], k, f, h, _ => by simp at h
  | x :: r, 0, f, h, _ => by
    have : x = f := by simpa using h
    subst this; simp
  | x :: r, k + 1, f, h, hj => by
    have hne : x ≠ f := fun e => hj 0 (by omega) (by rw [e]; rfl)
    have := FD (row := r) (k := k) (f := f) (by simpa using h) (fun j hjk => by have := hj (j + 1) (by omega); simpa using this)
    rw [List.erase_cons_tail (by simpa using hne), this]; rfl
def Ran (g : Grid) (c : gy) (t : List Task) (b : List (List (List Cell))) (l : List Nat) : Prop := ∃ row U, Full t row ∧ vH g c t row U b l
theorem Gy {g : Grid} {c : gy} {t : List Task} {n : Int} {b : List (List (List Cell))} {l : List Nat} {out : List (List (List Cell))} {F : List Nat} (h1 : n = 1 ∨ Ran g c t b l) (h2 : Ran g c t out F) : Ran g c t (Pick n b l out F).1 (Pick n b l out F).2 := by
  unfold Pick
  split
  · exact h2
  · rename_i h; exact h1.resolve_left fun e => h (.inl e)
theorem LM {n : Int} (hn : n ≠ 1) {b : List (List (List Cell))} {l : List Nat} {out : List (List (List Cell))} {F : List Nat} : (Pick n b l out F).2.length ≤ l.length := by
  unfold Pick
  split
  · rename_i h; have := h.resolve_left hn; show F.length ≤ _; omega
  · exact Nat.le_refl _
theorem Bh.le {g : Grid} {c : gy} {t : List Task} {tries : Int} {n : Int} {row : List Nat} {b : List (List (List Cell))} {l : List Nat} {b2 : List (List (List Cell))} {l2 : List Nat} (h : Bh g c t tries n row b l b2 l2) : 2 ≤ n → l2.length ≤ l.length := by
  induction h with
  | stop _ => intro _; exact Nat.le_refl _
  | last _ _ => intro hn; exact LM (by omega)
  | next _ _ _ ih => intro hn; exact Nat.le_trans (ih (by omega)) (LM (by omega))
theorem Bh.more {g : Grid} {c : gy} {t : List Task} {tries more : Int} (ht : 1 ≤ tries) (hm : tries ≤ more) {n : Int} {row : List Nat} {b : List (List (List Cell))} {l : List Nat} {b2 : List (List (List Cell))} {l2 : List Nat} (h : Bh g c t tries n row b l b2 l2) :
    1 ≤ n → ∀ {b3 l3}, Bh g c t more n row b l b3 l3 → l3.length ≤ l2.length := by
  induction h with
  | stop hn => intro h1 b3 l3 h'; exact h'.le (by omega)
  | @last n row b l U out hn hR =>
    intro h1 b3 l3 h'
    cases h' with
    | stop hn2 => omega
    | last hn2 hR2 => obtain ⟨_, e, _⟩ := hR.det hR2 rfl; subst e; exact Nat.le_refl _
    | next hn2 hR2 h2 => obtain ⟨_, _, e⟩ := hR.det hR2 rfl; cases e
  | @next n row b l U out F f b2 l2 hn hR h ih =>
    intro h1 b3 l3 h'
    cases h' with
    | stop hn2 => omega
    | last hn2 hR2 => obtain ⟨_, _, e⟩ := hR.det hR2 rfl; cases e
    | next hn2 hR2 h2 =>
      obtain ⟨_, e1, e2⟩ := hR.det hR2 rfl
      injection e2 with e3 e4
      subst e1; subst e3; subst e4
      exact ih (by omega) h2
def qZ (g : Grid) (c : gy) (t : List Task) (tries : Int) : Int := if uU g c ≠ 0 then uU g c else if vW g t ≠ 0 then vW g t else if within tries 1 20 = false then 1 else 0
theorem EW {g : Grid} {c : gy} {t : List Task} {tries : Int} (h : qZ g c t tries = 0) : uU g c = 0 ∧ vW g t = 0 ∧ 1 ≤ tries ∧ tries ≤ 20 := by
  unfold qZ at h
  split at h; · rename_i h1; exact absurd h h1
  rename_i h1
  split at h; · rename_i h2; exact absurd h h2
  rename_i h2
  split at h; · cases h
  rename_i h3
  have h4 : within tries 1 20 = true := by simpa using h3
  rw [within_iff] at h4
  exact ⟨Decidable.not_not.1 h1, Decidable.not_not.1 h2, h4.1, h4.2⟩
theorem Gv {g : Grid} {c : gy} (h : uU g c = 0) : uf g = 0 := by
  unfold uU at h
  split at h
  · rename_i e; exact absurd h e
  · rename_i e; exact Decidable.not_not.1 e
theorem G8 {g : Grid} {c : gy} {t : List Task} {tries : Int} {Q : List fK → Int → Prop} (h1 : qZ g c t tries ≠ 0 → Q [] (qZ g c t tries))
    (h0 : qZ g c t tries = 0 → ∀ b l, Bh g c t tries 1 (List.range t.length) [] [] b l → Ran g c t b l → Q (Nl t b l) 0) : uj g c t tries Q := by
  unfold uj
  refine EP (fB (fun e => ?_) (fun e => ?_))
  · have e' : uU g c ≠ 0 := by simpa using e
    unfold qZ at h1; rw [if_pos e'] at h1; exact h1 e'
  have eb : uU g c = 0 := by simpa using e
  refine xG (fB (fun e => ?_) (fun e => ?_))
  · have e' : vW g t ≠ 0 := by simpa using e
    unfold qZ at h1; rw [if_neg (by simp [eb]), if_pos e'] at h1; exact h1 e'
  have et : vW g t = 0 := by simpa using e
  refine fB (fun e => ?_) (fun e => ?_)
  · have e' : within tries 1 20 = false := by simpa using e
    unfold qZ at h1; rw [if_neg (by simp [eb]), if_neg (by simp [et]), if_pos e'] at h1; exact h1 (by decide)
  have ew : within tries 1 20 = true := by simpa using e
  have er : qZ g c t tries = 0 := by unfold qZ; rw [if_neg (by simp [eb]), if_neg (by simp [et]), if_neg (by rw [ew]; decide)]
  have h0 := h0 er
  clear h1
  obtain ⟨_, _, ht1, ht2⟩ := EW er
  obtain ⟨hg, hc⟩ := yX eb
  have hgf := Gv eb
  have ok := JH et
  have htl := ok.len
  refine jO (fun k (l : List Int) => l = ints (List.range k)) rfl (fun k x l hx hI next hn => ?_) (fun l hI => ?_)
  · have hk := dO hx
    unfold pI
    subst hI
    refine ⟨⟨by rw [List.length_append, jY, List.length_range, List.length_singleton]; omega, by rw [List.length_append, jY, List.length_range, List.length_singleton]; omega⟩, hn _ ?_⟩
    rw [D5, List.range_succ]
  subst hI
  show lp _ (ints (List.range t.length), ([] : List (List (List Cell))), (([] : List Int)), 1)
  have hfull : Full t (List.range t.length) := ⟨List.nodup_range, fun i => List.mem_range⟩
  refine Jl (fun s => ∃ row lost, s.1 = ints row ∧ s.2.2.1 = ints lost ∧ Full t row ∧ 1 ≤ s.2.2.2 ∧ (s.2.2.2 = 1 ∨ Ran g c t s.2.1 lost) ∧ ∀ b l, Bh g c t tries s.2.2.2 row s.2.1 lost b l → Ran g c t b l → Q (Nl t b l) 0) (fun s => (tries + 1 - s.2.2.2).toNat) ⟨_, [], rfl, rfl, hfull, Int.le_refl _, .inl rfl, h0⟩ ?_
  rintro X ⟨_, best, _, n⟩ ⟨row, lost, rfl, rfl, hf, hn1, hran, hK⟩ hX
  simp only at hn1 hran hK
  show lD g c t tries Q (fun l6 l7 l8 n2 => X (l6, l7, l8, n2)) (ints row) best (ints lost) n
  unfold lD
  have blen : ∀ {b l}, Ran g c t b l → b.length = t.length := fun {b l} ⟨row, U, hf, hR⟩ => (hR.fact hgf hc ok hf.nodup).len
  refine fB (fun e => ?_) (fun e => ?_)
  · have hnt : n ≤ tries := of_decide_eq_true e
    have hw : w64 (n + 1) = n + 1 := fO (by omega) (by omega)
    refine Hf hgf hc ok hf.nodup (fun i hi => (hf.all i).1 hi) fun U out F hR => ?_
    have hro : Ran g c t out F := ⟨row, U, hf, hR⟩
    have fact := hR.fact hgf hc ok hf.nodup
    have turn : ∀ f F', F = f :: F' → ∀ b1 l1, (b1, l1) = Pick n best lost out F → oM (ints row) (f : Int) fun y6 => qx (ints row) y6 (w64 (y6 + 1)) fun y7 => qp y7 0 [(f : Int)] fun y8 z1 => X (y8, b1, ints l1, w64 (n + 1)) := by
      intro f F' hF b1 l1 hp
      have hfr : f ∈ row := fact.fsub f (by rw [hF]; exact List.mem_cons_self ..)
      refine JP hfr fun k hk hbefore => ?_
      have hkl := dO hk
      have hrl : row.length ≤ t.length := jT t.length row hf.nodup (fun i hi => (hf.all i).1 hi)
      have hwk : w64 ((k : Int) + 1) = ((k + 1 : Nat) : Int) := by rw [fO (by omega) (by omega)]; omega
      unfold qx
      rw [hwk]
      refine ⟨⟨by omega, by omega, by rw [jY]; omega⟩, ?_⟩
      rw [Int.toNat_natCast, Int.toNat_natCast]
      have erow : (ints row).take k ++ (ints row).drop (k + 1) = ints (row.erase f) := by
        rw [FD hk hbefore]; unfold ints; rw [List.map_append, List.map_take, List.map_drop]
      rw [erow]
      have hel : (row.erase f).length ≤ 100 := by have := List.length_erase_le (a := f) (l := row); omega
      unfold qp
      refine ⟨⟨by omega, by omega, by simp, by rw [jY, List.length_singleton]; exact ⟨by omega, by omega⟩⟩, ?_⟩
      have e2 : (ints (row.erase f)).take (0 : Int).toNat ++ [(f : Int)] ++ (ints (row.erase f)).drop (0 : Int).toNat = ints (f :: row.erase f) := by unfold ints; simp
      rw [e2, hw]
      have hpr := Gy hran hro
      rw [← hp] at hpr
      refine hX _ ⟨f :: row.erase f, l1, rfl, rfl, hf.turn hfr, by simp only; omega, .inr hpr, fun b l hL hRan => hK b l ?_ hRan⟩ (by simp only; omega)
      have hp1 : b1 = (Pick n best lost out (f :: F')).1 := by rw [← hF, ← hp]
      have hp2 : l1 = (Pick n best lost out (f :: F')).2 := by rw [← hF, ← hp]
      subst hF
      refine .next hnt hR ?_
      rw [← hp1, ← hp2]; exact hL
    have k3 : ∀ cc, (cc = true → Pick n best lost out F = (out, F)) → (cc = false → Pick n best lost out F = (best, lost)) → nC t Q (ints row) best (ints lost) n (fun l6 l7 l8 n2 => X (l6, l7, l8, n2)) out (ints F) cc := by
      intro cc hp1 hp0
      unfold nC
      have lastQ : F = [] → ∀ b1 l1, (b1, l1) = Pick n best lost out F → Q (Nl t b1 l1) 0 := fun hF b1 l1 hp => by
        subst hF
        have hpr := Gy hran hro
        rw [← hp] at hpr
        refine hK b1 l1 ?_ hpr
        have h5 := Bh.last (b := best) (l := lost) hnt hR
        rw [← hp] at h5; exact h5
      refine fB (fun ec => ?_) (fun ec => ?_)
      · refine fB (fun ez => ?_) (fun ez => ?_)
        · have hF : F = [] := by
            rw [jY] at ez
            have hz : (F.length : Int) = 0 := by simpa using ez
            exact List.eq_nil_of_length_eq_zero (by omega)
          exact Gs htl (blen hro) (fun k x l next hh => hh) (lastQ hF _ _ (hp1 ec).symm)
        · cases hF : F with
          | nil => rw [hF] at ez; simp [ints] at ez
          | cons f F' =>
            refine gG (i := 0) (x := (f : Int)) rfl ?_
            have := turn f F' hF _ _ (hp1 ec).symm
            rw [← hF]; exact this
      · have hpp := hp0 ec
        refine fB (fun ez => ?_) (fun ez => ?_)
        · have hF : F = [] := by
            rw [jY] at ez
            have hz : (F.length : Int) = 0 := by simpa using ez
            exact List.eq_nil_of_length_eq_zero (by omega)
          have hpr := Gy hran hro
          rw [hpp] at hpr
          exact Gs htl (blen hpr) (fun k x l next hh => hh) (lastQ hF _ _ hpp.symm)
        · cases hF : F with
          | nil => rw [hF] at ez; simp [ints] at ez
          | cons f F' => exact gG (i := 0) (x := (f : Int)) rfl (turn f F' hF _ _ hpp.symm)
    refine fB (fun e1 => k3 _ (fun _ => ?_) (fun e' => by cases e')) (fun e1 => k3 _ (fun e2 => ?_) (fun e2 => ?_))
    · unfold Pick; rw [if_pos (.inl (by simpa using e1))]
    · unfold Pick
      rw [if_pos (.inr (by rw [jY, jY] at e2; have := of_decide_eq_true e2; omega))]
    · unfold Pick
      rw [if_neg (by
        rintro (h | h)
        · simp at e1; exact e1 h
        · rw [jY, jY] at e2; have := of_decide_eq_false e2; omega)]
  · have hnt : tries < n := by have := of_decide_eq_false e; omega
    have hr : Ran g c t best lost := hran.resolve_left fun e => by omega
    exact Gs htl (blen hr) (fun k x l next hh => hh) (hK _ _ (.stop hnt) hr)
open Tryz Go Go.RowKit
def oO (f : iE) (c : Cell) (Q : fC → Prop) : Prop :=
  mJ f c fun y1 => idx f.best (w64 (3 * y1)) fun x1 => Q x1
set_option maxHeartbeats 1000000 in
theorem xh (f : iE) (c : Cell) (x : World) (d : Option Addr) (e : Nat) (u : View x (old x none_) d e f.g.Blocked) (m : Option Addr) (o : Nat) (y : View x (old x none_) m o f.blocked) (j : Option Addr) (s : Nat) (r : View x (old x none_) j s f.best) (z : Nat) (A : gU x (old x none_) (some ⟨z, 0, none⟩) 0 [iv f.g.W, iv f.g.H, iv f.g.Layers, .slice d f.g.Blocked.length e, iv f.c.Step, iv f.c.Via, iv f.c.Turn, iv f.c.Against, .slice m f.blocked.length o, .slice j f.best.length s]) (Q : fC → Prop) (h : oO f c Q) :
  Ret Tryz.prog 66 #[(pn z 0), .agg #[iv c.X, iv c.Y, iv c.Layer]] x fun v O => ∃ (G : fC), v = .agg #[iv G.cost, iv G.cells] ∧ Q G ∧ Sat x none_ [] O := by
 refine fF func66 Z ntmps66 Z (fs := [(0, _), (1, _)]) Z (fun a t => ?_);have b := Sat.start x none_;unfold oO at h;refine X.l (S.box t b Z Z Z (fH c) Z Z Z (fun P a w t b => S.alloc t b Z Z Z [iv 0, iv 0] Z bp Z (fun T a w t b => X.n (wp_seq (M.start 10 (Sat x none_ [hbox T 104 [iv 0, iv 0], hbox P 63 (fH c)]) mo ?_)))));replace b := b.drew;refine Am t <| Mq b (pn z 0) 0 Z Z <| Mq b (pn z 0) 1 Z Z <| Mw b (pn z 9) 2 Z Z (V.dV Z Z aG Z aS Z Z) <| Mw b (.slice j f.best.length s) 3 Z Z (V.fU (off := 9) (Ag.args _ _ _) A Z Z bG aS Z Z) <| Mq b (pn z 0) 4 Z Z <| Mw b (fP c) 5 Z Z (V.dR 1 Z Z Z ae ac Z Z) fun a t => Mo 6 Z (Sc t (ku f c _ d e (Va u b) m o (Va y b) j s (Va r b) z (Ve A b) _ h) Z Z Z Z bf ?_);rintro v a w t ⟨J, rfl, h, i⟩;replace b := b.call i;refine X.n (⟨b, (Am t <| Mq b (iv (w64 (3 * J))) 7 Z Z fun a t => ?_)⟩);obtain ⟨I, F, B, h⟩ := h;refine Am t <| Mw b (eP j ((w64 (3 * J)).toNat * 2)) 8 Z Z (V.index Z Z Z bq aq (r.some_ (dO B)) I (dO B) Z) <| Mw b (wL F) 9 Z Z (V.gX (off := 0) (Ag.args _ _ _) (r.flat B) Z Z Z aY aq Z Z) fun a t => M.last (i := 10) Z (by kernel_rfl) (by kernel_rfl) (S.fM 0 t b Z Z (mY F) (mY F) Z Z Z Z Z aq Z Z Z Z (fun a w t b => X.n (Md (X.eF (wp_ret ?_)))));have K := b;exact L.ret t (tY results66 (mF.box t K 0 Z Z aY aq Z Z)) ⟨F, Z, h, b.nil⟩

-- no etchhouse/etchhouseref7.askEnds
end Go.Proofs.YtfjcgoiedlimdaaGreatDoor

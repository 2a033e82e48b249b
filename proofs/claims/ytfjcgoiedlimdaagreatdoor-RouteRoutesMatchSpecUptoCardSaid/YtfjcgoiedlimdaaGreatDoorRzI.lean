/- Chapter texts of ours, as far as the claim needs them. -/
import Derived.Test.YtfjcgoiedlimdaaGreatDoorRtN2
import Derived.Test.YtfjcgoiedlimdaaGreatDoorRzB
import Derived.Test.YtfjcgoiedlimdaaGreatDoorRuG
namespace Go.Proofs.YtfjcgoiedlimdaaGreatDoor
open Go Go.RowKit
set_option linter.unusedVariables false
set_option linter.unusedSectionVars false
set_option linter.unusedSimpArgs false
def ql (n : Nat) (F : List Nat) : List Bool := (List.range n).map (fun i => decide (i ∈ F))
theorem vV {n : Nat} {F : List Nat} {i : Nat} (hi : i < n) : (ql n F)[i]? = some (decide (i ∈ F)) := by
  unfold ql; rw [List.getElem?_map, List.getElem?_range hi]; rfl
theorem uV (n : Nat) (F : List Nat) : (ql n F).length = n := by unfold ql; simp
theorem MP (n : Nat) : ql n [] = List.replicate n false := by
  apply List.ext_getElem?
  intro i
  rcases Nat.lt_or_ge i n with h | h
  · rw [vV h, List.getElem?_replicate, if_pos h]; simp
  · rw [List.getElem?_eq_none (by rw [uV]; exact h), List.getElem?_eq_none (by simp; exact h)]
theorem Nk {n : Nat} {F : List Nat} {i : Nat} (hi : i < n) : (ql n F).set i true = ql n (F ++ [i]) := by
  apply List.ext_getElem?
  intro j
  rw [wJ (by rw [uV]; exact hi)]
  rcases Nat.lt_or_ge j n with h | h
  · have e1 := vV (F := F) h
    rw [vV (F := F ++ [i]) h]
    by_cases e : j = i
    · subst e; rw [if_pos rfl]; simp
    · rw [if_neg e, e1]; simp [e]
  · rw [if_neg (by omega), List.getElem?_eq_none (by rw [uV]; exact h), List.getElem?_eq_none (by rw [uV]; exact h)]
theorem KF {n : Nat} {F : List Nat} {i : Nat} (hi : i < n) (hF : i ∉ F) : (ql n F).set i false = ql n F := by
  apply List.ext_getElem?
  intro j
  rw [wJ (by rw [uV]; exact hi)]
  by_cases e : j = i
  · subst e; rw [if_pos rfl, vV hi, decide_eq_false hF]
  · rw [if_neg e]
theorem vH.pre {g : Grid} {c : gy} {t : List Task} : ∀ (k : Nat) {row : List Nat} {U : List Cell} {out : List (List (List Cell))} {F : List Nat}, vH g c t row U out F → k ≤ row.length → ∃ U1 out1 F1, vH g c t (row.take k) U1 out1 F1 := by
  intro k row U out F h
  induction h with
  | nil => intro _; exact ⟨_, _, _, by simpa using vH.nil⟩
  | @good d U out F i u W h hu hT ih =>
    intro hk
    rcases Nat.lt_or_ge d.length k with h1 | h1
    · have e : (d ++ [i]).take k = d ++ [i] := List.take_of_length_le (by rw [List.length_append, List.length_singleton]; omega)
      rw [e]; exact ⟨_, _, _, .good h hu hT⟩
    · rw [List.take_append_of_le_length h1]; exact ih h1
  | @bad d U out F i u W h hu hT ih =>
    intro hk
    rcases Nat.lt_or_ge d.length k with h1 | h1
    · have e : (d ++ [i]).take k = d ++ [i] := List.take_of_length_le (by rw [List.length_append, List.length_singleton]; omega)
      rw [e]; exact ⟨_, _, _, .bad h hu hT⟩
    · rw [List.take_append_of_le_length h1]; exact ih h1
theorem vH.unset {g : Grid} {c : gy} {t : List Task} {d : List Nat} {U : List Cell} {out : List (List (List Cell))} {F : List Nat} (h : vH g c t d U out F) : out.length = t.length ∧ ∀ i, i ∉ d → i < t.length → out[i]? = some [] := by
  induction h with
  | nil => exact ⟨by simp, fun i _ hi => by rw [List.getElem?_replicate, if_pos hi]⟩
  | @good d U out F i u W h hu hT ih =>
    refine ⟨by rw [List.length_set]; exact ih.1, fun j hj hjl => ?_⟩
    have hji : j ≠ i := fun e => hj (by rw [e]; simp)
    rw [wJ (by rw [ih.1]; exact dO hu), if_neg hji]
    exact ih.2 j (fun h => hj (List.mem_append_left _ h)) hjl
  | @bad d U out F i u W h hu hT ih => exact ⟨ih.1, fun j hj hjl => ih.2 j (fun h => hj (List.mem_append_left _ h)) hjl⟩
theorem vH.sub {g : Grid} {c : gy} {t : List Task} {d : List Nat} {U : List Cell} {out : List (List (List Cell))} {F : List Nat} (h : vH g c t d U out F) : F.Sublist d := by
  induction h with
  | nil => exact List.Sublist.refl _
  | good h hu hT ih => exact ih.trans (List.sublist_append_left _ _)
  | bad h hu hT ih => exact ih.append (List.Sublist.refl _)
theorem IW {l : List Cell} (hl : l.length ≤ 5000000000) {Q : List Cell → Prop} (h : Q l) : qE l Q := by
  unfold qE
  intro b hb
  refine fB (fun e => ?_) (fun e => ?_)
  · rw [hb e] at h; exact h
  · rw [List.nil_append]; exact ⟨⟨by omega, by omega⟩, h⟩
theorem EL {g : Grid} (h0 : uf g = 0) {c : gy} (hc : COk c) {t : List Task} (ok : TOk g t) {row : List Nat} (hnd : row.Nodup) (hlt : ∀ i ∈ row, i < t.length) {U : List Cell} {out : List (List (List Cell))} {F : List Nat} (hR : vH g c t row U out F) {Q : List (List (List Cell)) → List Bool → Prop}
    (h : Q out (ql t.length F)) : oL g c t (ints row) Q := by
  have hs := ok.gok.sz
  have hN := ok.gok.N
  have htl := ok.len
  have hrl : row.length ≤ 100 := by have := jT t.length row hnd hlt; omega
  have go : oI g c t (ints row) Q (List.replicate t.length ([] : (List (List Cell)))) (List.replicate t.length false) := by
    unfold oI
    refine jO (fun k (s : List Cell × List (List (List Cell)) × List Bool) => k ≤ row.length ∧ ∃ U F, vH g c t (row.take k) U s.2.1 F ∧ s.2.2 = ql t.length F ∧ (∀ c, c ∈ s.1 ↔ c ∈ U ∨ ∃ (i : Nat) (u : Task), i ∈ row.take k ∧ i ∉ F ∧ t[i]? = some u ∧ c ∈ u.Pins) ∧ s.1.length ≤ 2000050 * k) ⟨Nat.zero_le _, [], [], .nil, (MP _).symm, fun c => by simp, by simp⟩ (fun k x s hx hI next hn => ?_) (fun s hI => ?_)
    · obtain ⟨hk, U, F, hP, hF, hused, hul⟩ := hI
      obtain ⟨l6, out, l8⟩ := s
      simp only at hP hF hused hul
      subst hF
      obtain ⟨i, hi, rfl⟩ : ∃ i : Nat, row[k]? = some i ∧ (i : Int) = x := by
        unfold ints at hx
        rw [List.getElem?_map] at hx
        cases hr : row[k]? with
        | none => rw [hr] at hx; cases hx
        | some i => rw [hr] at hx; injection hx with hx; exact ⟨i, rfl, hx⟩
      have hil := hlt i (List.mem_of_getElem? hi)
      have hkr := dO hi
      have htk : row.take (k + 1) = row.take k ++ [i] := by rw [List.take_add_one, hi]; rfl
      have hndk : (row.take (k + 1)).Nodup := hnd.sublist (List.take_sublist _ _)
      rw [htk] at hndk
      have hnd' := List.nodup_append.1 hndk
      have hid : i ∉ row.take k := fun h => hnd'.2.2 i h i (by simp) rfl
      have f := hP.fact h0 hc ok hnd'.1
      have hFi : i ∉ F := fun h => hid (f.fsub i h)
      obtain ⟨U1, out1, F1, hP1⟩ := hR.pre (k + 1) (by omega)
      rw [htk] at hP1
      obtain ⟨u, hu⟩ : ∃ u, t[i]? = some u := ⟨_, List.getElem?_eq_getElem hil⟩
      have hX := CU (i := i) ok f.uin
      have hpf := DY ok f.uin f.upin hid hu
      have hgX := oZ (zA h0 hX)
      obtain ⟨p1, p2, p3, p4⟩ := ok.pins u (List.mem_of_getElem? hu)
      show oq g c t k (i : Int) l6 out (ql t.length F) (fun l6 l7 l8 => next (l6, l7, l8))
      unfold oq
      refine IW (by omega) ?_
      refine jO (fun m (l : List Cell) => (∀ c, c ∈ l ↔ c ∈ l6 ∨ ∃ (j : Nat) (v : Task), j < m ∧ j ≠ i ∧ t[j]? = some v ∧ c ∈ v.Pins) ∧ l.length ≤ l6.length + 50 * m) ⟨fun c => by simp, by omega⟩ (fun m v l hv hJ nx hnn => ?_) (fun l hJ => ?_)
      · have hvp := (ok.pins v (List.mem_of_getElem? hv)).2.1
        have hml := dO hv
        unfold qO
        refine fB (fun e => ?_) (fun e => ?_)
        · have hne : m ≠ i := fun e' => by subst e'; simp at e
          refine ⟨⟨by rw [List.length_append]; omega, by rw [List.length_append]; omega⟩, hnn _ ⟨fun c => ?_, by rw [List.length_append]; omega⟩⟩
          rw [List.mem_append, hJ.1 c]
          constructor
          · rintro ((h1 | ⟨j, w, h1, h2⟩) | h1)
            · exact .inl h1
            · exact .inr ⟨j, w, by omega, h2⟩
            · exact .inr ⟨m, v, by omega, hne, hv, h1⟩
          · rintro (h1 | ⟨j, w, h1, h2, h3, h4⟩)
            · exact .inl (.inl h1)
            · by_cases ej : j = m
              · subst ej; rw [hv] at h3; injection h3 with h3; subst h3; exact .inr h4
              · exact .inl (.inr ⟨j, w, by omega, h2, h3, h4⟩)
        · have heq : m = i := by have : (m : Int) = (i : Int) := by simpa using e
                                 omega
          refine hnn _ ⟨fun c => ?_, by omega⟩
          rw [hJ.1 c]
          constructor
          · rintro (h1 | ⟨j, w, h1, h2⟩)
            · exact .inl h1
            · exact .inr ⟨j, w, by omega, h2⟩
          · rintro (h1 | ⟨j, w, h1, h2, h3⟩)
            · exact .inl h1
            · exact .inr ⟨j, w, by omega, h2, h3⟩
      · obtain ⟨hJ1, hJ2⟩ := hJ
        have hset : ∀ c, c ∈ l ↔ c ∈ U ++ jJ t i := fun c => by
          rw [hJ1 c, hused c, List.mem_append, rD]
          constructor
          · rintro ((h1 | ⟨j, w, h1, h2, h3, h4⟩) | ⟨j, w, h1, h2, h3, h4⟩)
            · exact .inl h1
            · exact .inr ⟨j, w, h3, fun e => hid (e ▸ h1), h4⟩
            · exact .inr ⟨j, w, h3, h2, h4⟩
          · rintro (h1 | ⟨j, w, h1, h2, h3⟩)
            · exact .inl (.inl h1)
            · exact .inr ⟨j, w, dO h1, h2, h1, h3⟩
        refine gG hu (GH h0 (fun c hc => hX c ((hset c).1 hc)) (by omega) ?_)
        rw [FU hset]
        have hW2 : out[i]? = some [] := hP.unset.2 i hid hil
        have after : ∀ (W : List (List Cell)) (b : Bool), (b = true → iZ (jk g (U ++ jJ t i)) c u.Pins [gq g (u.Pins.getD 0 default)] W true) → (b = false → W = [] ∧ ∃ V, iZ (jk g (U ++ jJ t i)) c u.Pins [gq g (u.Pins.getD 0 default)] V false) →
            idx out (i : Int) fun x2 => idx (ql t.length F) (i : Int) fun x3 => cnd b (must (room (l6 ++ u.Pins).length 24) (o5 W fun y5 => must (room ((l6 ++ u.Pins) ++ y5).length 24) (next ((l6 ++ u.Pins) ++ y5, out.set (i : Int).toNat W, (ql t.length F).set (i : Int).toNat (!b))))) (next (l6, out.set (i : Int).toNat W, (ql t.length F).set (i : Int).toNat (!b))) := by
          intro W b hb1 hb0
          refine gG hW2 (gG (vV hil) ?_)
          rw [Int.toNat_natCast]
          refine fB (fun e => ?_) (fun e => ?_)
          · have hT := hb1 e
            subst e
            have hr := hT.right hgX hc
            have hwg : ∀ w ∈ W, CO g w = 0 := fun w hw => (Az ok.gok hX (hr w hw)).1
            have hWl : W.length ≤ 50 := by
              have := hT.few
              have h2 := List.countP_le_length (p := fun p => decide (gq (jk g (U ++ jJ t i)) p ∉ [gq g (u.Pins.getD 0 default)])) (l := u.Pins)
              omega
            have hfl := MQ hWl hwg
            refine ⟨⟨by rw [List.length_append]; omega, by rw [List.length_append]; omega⟩, Oi (by omega) ⟨⟨by rw [List.length_append, List.length_append]; omega, by rw [List.length_append, List.length_append]; omega⟩, hn _ ⟨by omega, U ++ W.flatten, F, ?_, KF hil hFi, fun c => ?_, by simp only [List.length_append]; omega⟩⟩⟩
            · rw [htk]; exact .good hP hu hT
            · simp only
              rw [List.mem_append, List.mem_append, hused c, List.mem_append, htk]
              constructor
              · rintro (((h1 | ⟨j, w, h1, h2⟩) | h1) | h1)
                · exact .inl (.inl h1)
                · exact .inr ⟨j, w, List.mem_append_left _ h1, h2⟩
                · exact .inr ⟨i, u, by simp, hFi, hu, h1⟩
                · exact .inl (.inr h1)
              · rintro ((h1 | h1) | ⟨j, w, h1, h2, h3, h4⟩)
                · exact .inl (.inl (.inl h1))
                · exact .inr h1
                · rcases List.mem_append.1 h1 with h5 | h5
                  · exact .inl (.inl (.inr ⟨j, w, h5, h2, h3, h4⟩))
                  · have : j = i := by simpa using h5
                    subst this; rw [hu] at h3; injection h3 with h3; subst h3
                    exact .inl (.inr h4)
          · obtain ⟨hW0, V, hT⟩ := hb0 e
            subst e; subst hW0
            have hself : out.set i [] = out := by
              apply List.ext_getElem?
              intro j
              rw [wJ (by rw [f.len]; exact hil)]
              by_cases ej : j = i
              · subst ej; rw [if_pos rfl, hW2]
              · rw [if_neg ej]
            rw [hself]
            refine hn _ ⟨by omega, U, F ++ [i], ?_, Nk hil, fun c => ?_, by show l6.length ≤ _; omega⟩
            · rw [htk]; exact .bad hP hu hT
            · simp only
              rw [hused c, htk]
              constructor
              · rintro (h1 | ⟨j, w, h1, h2, h3⟩)
                · exact .inl h1
                · refine .inr ⟨j, w, List.mem_append_left _ h1, fun hj => ?_, h3⟩
                  rcases List.mem_append.1 hj with h5 | h5
                  · exact h2 h5
                  · have : j = i := by simpa using h5
                    exact hid (this ▸ h1)
              · rintro (h1 | ⟨j, w, h1, h2, h3⟩)
                · exact .inl h1
                · have hjF : j ∉ F := fun h => h2 (List.mem_append_left _ h)
                  rcases List.mem_append.1 h1 with h5 | h5
                  · exact .inr ⟨j, w, h5, hjF, h3⟩
                  · exact absurd (List.mem_append_right _ h5) h2
        have hcases : (∃ W, iZ (jk g (U ++ jJ t i)) c u.Pins [gq g (u.Pins.getD 0 default)] W true) ∨ ∃ W, iZ (jk g (U ++ jJ t i)) c u.Pins [gq g (u.Pins.getD 0 default)] W false := by
          have inv : ∀ {d : List Nat} {U1 out1 F1}, vH g c t d U1 out1 F1 → d = row.take k ++ [i] → (∃ W, iZ (jk g (U ++ jJ t i)) c u.Pins [gq g (u.Pins.getD 0 default)] W true) ∨ ∃ W, iZ (jk g (U ++ jJ t i)) c u.Pins [gq g (u.Pins.getD 0 default)] W false := by
            intro d U1 out1 F1 hd e
            cases hd with
            | nil => exact absurd (congrArg List.length e) (by simp)
            | good hp hu2 hT =>
              obtain ⟨e1, e2⟩ := yN e
              obtain ⟨e3, _, _⟩ := hp.det hP e1
              subst e2; subst e3
              rw [hu] at hu2; injection hu2 with hu2; subst hu2
              exact .inl ⟨_, hT⟩
            | bad hp hu2 hT =>
              obtain ⟨e1, e2⟩ := yN e
              obtain ⟨e3, _, _⟩ := hp.det hP e1
              subst e2; subst e3
              rw [hu] at hu2; injection hu2 with hu2; subst hu2
              exact .inr ⟨_, hT⟩
          exact inv hP1 rfl
        have hx0 : u.Pins[0]? = some (u.Pins.getD 0 default) := by rw [List.getD_eq_getElem?_getD, List.getElem?_eq_getElem p1]; rfl
        refine NQ (g := jk g (U ++ jJ t i)) hgX hc p1 (by omega) hpf (fun W hT => after W true (fun _ => hT) (fun e => by cases e)) (fun hno => ?_)
        rcases hcases with ⟨W, hT⟩ | ⟨W, hT⟩
        · obtain ⟨p, hp, hnc⟩ := hno
          have hp0g := hpf _ (List.mem_of_getElem? hx0)
          exact absurd (hT.conn hgX (a := gq g (u.Pins.getD 0 default)) (fun n hn => by
            have : n = gq g (u.Pins.getD 0 default) := by simpa using hn
            subst this
            have hfc := yS (c := c) hgX hp0g
            exact ⟨hfc.1, ⟨_, _, _, _, .nil hfc.1 hfc.2, rfl⟩⟩) rfl p hp) hnc
        · exact after [] false (fun e => by cases e) (fun _ => ⟨rfl, W, hT⟩)
    · obtain ⟨hk, U2, F2, hP, hF, _⟩ := hI
      rw [jY, List.take_length] at hP
      obtain ⟨_, e2, e3⟩ := hP.det hR rfl
      show Q s.2.1 s.2.2
      rw [hF, e2, e3]; exact h
  unfold oL
  exact ⟨⟨⟨by omega, by omega⟩, ⟨by omega, by omega⟩, go⟩, ⟨⟨by omega, by omega⟩, ⟨by omega, by omega⟩, go⟩⟩
end Go.Proofs.YtfjcgoiedlimdaaGreatDoor
